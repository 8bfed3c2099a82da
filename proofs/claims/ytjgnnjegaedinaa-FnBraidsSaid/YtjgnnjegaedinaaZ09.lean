/-
  Contracts of reflections of weights and of the image of rho, of the program and of the reference.
  Contracts of the image of rho and of equality of slices, of the program and of the reference.
  Contracts of the image of rho: acted, image, RhoOf, l8Image.
  Contracts of equality of slices and of AreSame, of the program and of the reference.
  Contracts of LeftDescents, of the program.
  More of rows: several slices of one's own side by side, appending to one of them, slices of slices that grow, parts of slices.
-/
import Derived.Test.YtjgnnjegaedinaaZ08
namespace Go.Proofs.Ytjgnnjegaedinaa.Hx
open Go.RowKit
variable {dm : Bool}

def reflNew (c : List (List Int)) (i : Nat) (v : List Int) (k : Nat) : Int := w64 (v.getD k 0 - w64 (v.getD i 0 * ent c k i))
/-- The first k numbers reflected, the others not. -/
def reflTo (c : List (List Int)) (i : Nat) (v : List Int) (k : Nat) : List Int := (List.range v.length).map fun j => if j < k then reflNew c i v j else v.getD j 0
def reflW (c : List (List Int)) (i : Nat) (v : List Int) : List Int := (List.range v.length).map (reflNew c i v)

theorem reflTo_length (c : List (List Int)) (i : Nat) (v : List Int) (k : Nat) : (reflTo c i v k).length = v.length := by simp [reflTo]
theorem reflW_length (c : List (List Int)) (i : Nat) (v : List Int) : (reflW c i v).length = v.length := by simp [reflW]
theorem reflTo_none (c : List (List Int)) (i : Nat) (v : List Int) : reflTo c i v 0 = v := by
  apply List.ext_getElem (by simp [reflTo])
  intro k h1 h2
  simp [reflTo, List.getD, h2]
theorem reflTo_all (c : List (List Int)) (i : Nat) (v : List Int) : reflTo c i v v.length = reflW c i v := by
  apply List.map_congr_left
  intro j hj
  rw [if_pos (List.mem_range.1 hj)]
theorem reflTo_get (c : List (List Int)) (i : Nat) (v : List Int) (k : Nat) (h : k < v.length) : (reflTo c i v k).getD k 0 = v.getD k 0 := by
  simp [reflTo, List.getD, h]
theorem reflTo_succ (c : List (List Int)) (i : Nat) (v : List Int) (k : Nat) : (reflTo c i v k).set k (reflNew c i v k) = reflTo c i v (k + 1) := by
  apply List.ext_getElem (by simp [reflTo])
  intro j h1 h2
  simp only [reflTo, List.getElem_set, List.getElem_map, List.getElem_range]
  by_cases hj : k = j
  · subst hj
    simp
  · rw [if_neg hj]
    by_cases hk : j < k
    · rw [if_pos hk, if_pos (by omega)]
    · rw [if_neg hk, if_neg (by omega)]

def actW (c : List (List Int)) : List Int → List Int → List Int
  | [], v => v
  | i :: w, v => reflW c i.toNat (actW c w v)

theorem actW_length (c : List (List Int)) : ∀ (w v : List Int), (actW c w v).length = v.length
  | [], _ => rfl
  | i :: w, v => by rw [actW, reflW_length, actW_length c w v]

theorem actW_drop (c : List (List Int)) (w v : List Int) {k : Nat} (h : k < w.length) : actW c (w.drop k) v = reflW c (w.getD k 0).toNat (actW c (w.drop (k + 1)) v) := by
  rw [List.drop_eq_getElem_cons h, actW]
  simp [List.getD, h]

theorem actW_end (c : List (List Int)) (w v : List Int) : actW c (w.drop w.length) v = v := by rw [List.drop_length]; rfl
theorem actW_all (c : List (List Int)) (w v : List Int) : actW c (w.drop 0) v = actW c w v := by rw [List.drop_zero]

def imageOf (c : List (List Int)) (w : List Int) : List Int := actW c w (List.replicate c.length 1)
theorem imageOf_length (c : List (List Int)) (w : List Int) : (imageOf c w).length = c.length := by rw [imageOf, actW_length, List.length_replicate]

theorem ent_eq (c : List (List Int)) (k i : Nat) : (c.getD k []).getD i 0 = ent c k i := rfl
theorem reflNew_eq (c : List (List Int)) (i : Nat) (v : List Int) (k : Nat) : w64 (v.getD k 0 - w64 (v.getD i 0 * ent c k i)) = reflNew c i v k := rfl
theorem refl_snoc (c : List (List Int)) (i : Nat) (v : List Int) (k : Nat) : (List.range (k + 1)).map (reflNew c i v) = (List.range k).map (reflNew c i v) ++ [reflNew c i v k] := by rw [List.range_succ, List.map_append]; rfl
theorem refl_len (c : List (List Int)) (i : Nat) (v : List Int) (k : Nat) : ((List.range k).map (reflNew c i v)).length = k := by simp
theorem ones_snoc (k : Nat) : List.replicate (k + 1) (1 : Int) = List.replicate k 1 ++ [1] := by rw [List.replicate_succ', ]
theorem ones_len (k : Nat) : (List.replicate k (1 : Int)).length = k := by simp


theorem spec_l6Reflect (h : Heap) (x y : H0) (c : List (List Int)) (i : Nat) (v : List Int) (hx : Rows h x c) (hy : Ints h y v) (hC : Cartan c) (hi : i < c.length) (hl : v.length = c.length) :
    HCalls dm Try.prog 95 [.s x, I i, .s y] h (fun r h' => ∃ y', r = .s y' ∧ Fresh h h' y' (reflW c i v)) := by
  have h4 := hC.le
  have E0 := Ext.push h [Row.own []]
  have O0 := Own.none h
  refine calls_of_hFun (m := 0) kd_ok mixed Try.func95 rfl (by kernel_rfl) rfl rfl (of_decide_eq_true rfl) ?_; unfold hFun; (conv => whnf)
  refine HLit.empty ?_
  (conv => whnf)
  refine HLoop.intro [8, 7] [10, 11, 12, 13, 16, 17, 18, 19, 20, 21, 22, 23, 24, 25, 26, 27, 28, 29, 30, 31, 32, 33, 34, 35, 7, 14, 15, 8] (by kernel_rfl) (by kernel_rfl) (fun vs h' => ∃ (k : Nat) (z : H0), vs = [I k, .s z] ∧ k ≤ v.length ∧ Ext h h' ∧ Own h.length h'.length h' z ((List.range k).map (reflNew c i v))) (fun vs _ => v.length - natAt vs 0) ⟨0, _, rfl, by omega, E0, O0⟩ ?_
  rintro vs h' ⟨k, z, rfl, hk, E, O⟩
  have hx := hx.ext E
  have hy := hy.ext E
  (conv => whnf)
  refine ⟨rfl, hy.len ?_⟩
  (conv => whnf)
  refine HIf.dec (fun hlt => ?_) (fun hge => ?_)
  · have hrow := hC.row k (by omega)
    (conv => whnf)
    refine Or.inr (Or.inr (Or.inl (Exists.intro 19 (Exists.intro [0, 1, 2, 3, 4, 5, 6, 7, 8, 9, 10, 11, 12, 13, 14, 15, 16, 17] (Exists.intro [18, 19, 20] (And.intro (show heldOk _ _ _ _ = true by kernel_rfl) ?_)))))); (conv => whnf)
    refine ⟨rfl, Ints.idxN hy (by omega) (fun p hp => ?_)⟩
    (conv => whnf)
    refine ⟨rfl, hp.load ?_⟩
    (conv => whnf)
    refine ⟨rfl, Ints.idxN hy (by omega) (fun p1 hp1 => ?_)⟩
    (conv => whnf)
    refine ⟨rfl, hp1.load ?_⟩
    (conv => whnf)
    refine ⟨rfl, Rows.idxN hx (by omega) (fun p2 q hp2 hq => ?_)⟩
    (conv => whnf)
    refine ⟨rfl, hp2.load ?_⟩
    (conv => whnf)
    refine ⟨rfl, Ints.idxN hq (by omega) (fun p3 hp3 => ?_)⟩
    (conv => whnf)
    refine ⟨rfl, hp3.load ?_⟩
    rw [ent_eq]
    (conv => whnf)
    refine HArith.any ?_
    (conv => whnf)
    refine HArith.any ?_
    (conv => whnf)
    refine HLit.one (v := reflNew c i v k) ?_
    (conv => whnf)
    refine ⟨rfl, rfl, HApp.snoc E O (by rw [refl_len]; omega) (fun h2 y2 E2 O2 => ?_)⟩
    rw [← refl_snoc] at O2
    (conv => whnf)
    refine HArith.fits (by omega) (by omega) ?_
    (conv => whnf)
    exact ⟨⟨k + 1, y2, rfl, by omega, E2, O2⟩, by show v.length - (k + 1) < v.length - k; omega⟩
  · (conv => whnf)
    have e : k = v.length := by omega
    subst e
    exact ⟨_, rfl, Fresh.of E O⟩

theorem impl_ones (h : Heap) (n : Nat) (hn : n ≤ 1048576) : HCalls dm Try.prog 89 [I n] h (fun r h' => ∃ y, r = .s y ∧ Fresh h h' y (List.replicate n 1)) := by
  have E0 := Ext.push h [Row.own []]
  have O0 := Own.none h
  refine calls_of_hFun (m := 0) kd_ok mixed Try.func89 rfl (by kernel_rfl) rfl rfl (of_decide_eq_true rfl) ?_; unfold hFun; (conv => whnf)
  refine HLit.empty ?_
  (conv => whnf)
  refine HLoop.intro [6, 3] [7, 8, 9, 10, 3, 11, 6] (by kernel_rfl) (by kernel_rfl) (fun vs h' => ∃ (k : Nat) (z : H0), vs = [I k, .s z] ∧ k ≤ n ∧ Ext h h' ∧ Own h.length h'.length h' z (List.replicate k 1)) (fun vs _ => n - natAt vs 0) ⟨0, _, rfl, by omega, E0, O0⟩ ?_
  rintro vs h' ⟨k, z, rfl, hk, E, O⟩
  (conv => whnf)
  refine HIf.dec (fun hlt => ?_) (fun hge => ?_)
  · (conv => whnf)
    refine HLit.one ?_
    (conv => whnf)
    refine ⟨rfl, rfl, HApp.snoc E O (by rw [ones_len]; omega) (fun h2 y2 E2 O2 => ?_)⟩
    rw [← ones_snoc] at O2
    (conv => whnf)
    refine HArith.fits (by omega) (by omega) ?_
    (conv => whnf)
    exact ⟨⟨k + 1, y2, rfl, by omega, E2, O2⟩, by show n - (k + 1) < n - k; omega⟩
  · (conv => whnf)
    have e : k = n := by omega
    subst e
    exact ⟨_, rfl, Fresh.of E O⟩

end Go.Proofs.Ytjgnnjegaedinaa.Hx

namespace Go.Proofs.Ytjgnnjegaedinaa.Hx
open Go.RowKit
variable {dm : Bool}

theorem Ext.len {h h' : Heap} (E : Ext h h') : h.length ≤ h'.length := E.1
theorem image_def (c : List (List Int)) (w : List Int) : actW c w (List.replicate c.length 1) = imageOf c w := rfl


theorem impl_reflected (hb h : Heap) (x y : H0) (c : List (List Int)) (i : Nat) (v : List Int) (hx : Rows hb x c) (E : Ext hb h) (O : Own hb.length h.length h y v) (hC : Cartan c) (hi : i < c.length) (hl : v.length = c.length) :
    HCalls dm Try.prog 87 [.s x, I i, .s y] h (fun r h' => r = .tup [] ∧ Ext hb h' ∧ Own hb.length h'.length h' y (reflW c i v)) := by
  have h4 := hC.le
  refine calls_of_hFun (m := 0) kd_ok mixed Try.func87 rfl (by kernel_rfl) rfl rfl (of_decide_eq_true rfl) ?_; unfold hFun; (conv => whnf)
  refine ⟨rfl, Ints.idxN O.ints (by omega) (fun p hp => ?_)⟩
  (conv => whnf)
  refine ⟨rfl, hp.load ?_⟩
  (conv => whnf)
  refine ⟨rfl, O.ints.len ?_⟩
  (conv => whnf)
  refine HLoop.intro [14] [15, 16, 7, 17, 18, 19, 20, 21, 22, 23, 24, 25, 26, 27, 28, 29, 30, 31, 32, 14] (by kernel_rfl) (by kernel_rfl) (fun vs h' => ∃ k : Nat, vs = [I k] ∧ k ≤ v.length ∧ Ext hb h' ∧ Own hb.length h'.length h' y (reflTo c i v k)) (fun vs _ => v.length - natAt vs 0) ⟨0, rfl, by omega, E, by rw [reflTo_none]; exact O⟩ ?_
  rintro vs h' ⟨k, rfl, hk, E, O⟩
  have hx := hx.ext E
  have hlen := reflTo_length c i v k
  (conv => whnf)
  refine HIf.dec (fun hlt => ?_) (fun hge => ?_)
  · have hrow := hC.row k (by omega)
    have hget := reflTo_get c i v k (by omega)
    have hsucc := reflTo_succ c i v k
    obtain ⟨q, cs, rfl, hq, hql, E2, O2⟩ := Own.store (v := reflNew c i v k) E O (show k < (reflTo c i v k).length by omega)
    rw [hsucc] at O2
    (conv => whnf)
    refine Or.inr (Or.inl (Exists.intro 15 (And.intro (show Region.lexTailB _ _ _ = true by kernel_rfl) ?_))); (conv => whnf)
    refine ⟨rfl, Ints.idxN O.ints (by omega) (fun p hp => ?_)⟩
    rw [hget] at hp
    (conv => whnf)
    refine ⟨rfl, hp.load ?_⟩
    (conv => whnf)
    refine ⟨rfl, Rows.idxN hx (by omega) (fun p2 z hp2 hz => ?_)⟩
    (conv => whnf)
    refine ⟨rfl, hp2.load ?_⟩
    (conv => whnf)
    refine ⟨rfl, Ints.idxN hz (by omega) (fun p3 hp3 => ?_)⟩
    (conv => whnf)
    refine ⟨rfl, hp3.load ?_⟩
    rw [ent_eq]
    (conv => whnf)
    refine HArith.any ?_
    (conv => whnf)
    refine HArith.any ?_
    (conv => whnf)
    refine ⟨rfl, HIdx.sl (by omega) (by omega) ?_⟩
    (conv => whnf)
    refine ⟨rfl, HStore.own hq (by omega) rfl ?_⟩
    (conv => whnf)
    refine HArith.fits (by omega) (by omega) ?_
    (conv => whnf)
    have e0 : 0 + (k : Int).toNat = k := by omega
    rw [e0]
    exact ⟨⟨k + 1, rfl, by omega, E2, O2⟩, by show v.length - (k + 1) < v.length - k; omega⟩
  · have e : k = v.length := by omega
    subst e
    rw [reflTo_all] at O
    (conv => whnf)
    exact ⟨rfl, E, O⟩

end Go.Proofs.Ytjgnnjegaedinaa.Hx

namespace Go.Proofs.Ytjgnnjegaedinaa.Hx
open Go.RowKit
variable {dm : Bool}

theorem Fresh.inner {hb h h' : Heap} {y : H0} {l : List Int} (E : Ext hb h) (f : Fresh h h' y l) : Ext hb h' ∧ Own hb.length h'.length h' y l := by
  obtain ⟨E2, q, t, rfl, hq1, hq2⟩ := f
  have := E.1
  exact ⟨E.trans E2, q, t, rfl, by omega, get_lt hq2, hq2⟩


theorem impl_acted (h : Heap) (x0 : H0) (a0 : List (List Int)) (x1 : H0) (a1 : List Int) (x2 : H0) (a2 : List Int) (hx0 : Rows h x0 a0) (hx1 : Ints h x1 a1) (hx2 : Ints h x2 a2) (hC : Cartan a0) (hw : lettersOk a0 a1 = true) (hl : a2.length = a0.length) (s1 : a1.length ≤ 1048576) :
    HCalls dm Try.prog 88 [.s x0, .s x1, .s x2] h (fun r h' => ∃ y, r = .s y ∧ Fresh h h' y (actW a0 a1 a2)) := by
  have hp := hC.le
  refine calls_of_hFun (m := 0) kd_ok mixed Try.func88 rfl (by kernel_rfl) rfl rfl (of_decide_eq_true rfl) ?_; unfold hFun; (conv => whnf)
  refine HLit.empty ?_
  (conv => whnf)
  refine ⟨rfl, rfl, HApp.copy hx2 (by omega) (fun h1 y1 E1 O1 => ?_)⟩
  have hx11 := hx1.ext E1
  (conv => whnf)
  refine ⟨rfl, hx11.len ?_⟩
  (conv => whnf)
  refine HArith.fits (by omega) (by omega) ?_
  (conv => whnf)
  refine HLoop.intro [8] [15, 16, 19, 20, 21, 22, 23, 24, 25, 17, 18, 8] (by kernel_rfl) (by kernel_rfl) (fun vs h' => ∃ k : Nat, vs = [I ((k : Int) - 1)] ∧ k ≤ a1.length ∧ Ext h h' ∧ Own h.length h'.length h' y1 (actW a0 (a1.drop k) a2)) (fun vs _ => (intAt vs 0 + 1).toNat) ⟨a1.length, rfl, Nat.le_refl _, E1, by rw [actW_end]; exact O1⟩ ?_
  rintro vs h' ⟨k, rfl, hk, E, O⟩
  have hx1 := hx1.ext E
  have hal := actW_length a0 (a1.drop k) a2
  (conv => whnf)
  refine HIf.dec (fun hlt => ?_) (fun hge => ?_)
  · obtain ⟨m, rfl⟩ : ∃ m, k = m + 1 := ⟨k - 1, by omega⟩
    obtain ⟨i, hi, hic⟩ := letter hw (k := m) (by omega)
    have e1 : (((m + 1 : Nat) : Int) - 1).toNat = m := by omega
    have hd := actW_drop a0 a1 a2 (k := m) (by omega)
    have e2 : (a1.getD m 0).toNat = i := by omega
    rw [e2] at hd
    (conv => whnf)
    refine ⟨rfl, Ints.idx hx1 (by omega) (by omega) (fun p hp => ?_)⟩
    rw [e1, hi] at hp
    (conv => whnf)
    refine ⟨rfl, hp.load ?_⟩
    (conv => whnf)
    refine (impl_reflected h _ _ _ a0 i _ hx0 E O hC hic (by omega)).mono ?_
    rintro r h2 ⟨rfl, E2, O2⟩
    rw [← hd] at O2
    (conv => whnf)
    refine HArith.fits (by omega) (by omega) ?_
    (conv => whnf)
    have e3 : ((m + 1 : Nat) : Int) - 1 - 1 = (m : Int) - 1 := by omega
    exact ⟨⟨m, by rw [← e3]; rfl, by omega, E2, O2⟩, by show (((m + 1 : Nat) : Int) - 1 - 1 + 1).toNat < (((m + 1 : Nat) : Int) - 1 + 1).toNat; omega⟩
  · have e : k = 0 := by omega
    subst e
    rw [actW_all] at O
    (conv => whnf)
    exact ⟨_, rfl, Fresh.of E O⟩

theorem impl_image (h : Heap) (x0 : H0) (a0 : List (List Int)) (x1 : H0) (a1 : List Int) (hx0 : Rows h x0 a0) (hx1 : Ints h x1 a1) (hC : Cartan a0) (hw : lettersOk a0 a1 = true) (s1 : a1.length ≤ 1048576) :
    HCalls dm Try.prog 56 [.s x0, .s x1] h (fun r h' => ∃ y, r = .s y ∧ Fresh h h' y (imageOf a0 a1)) := by
  have hp := hC.le
  refine calls_of_hFun (m := 0) kd_ok mixed Try.func56 rfl (by kernel_rfl) rfl rfl (of_decide_eq_true rfl) ?_; unfold hFun; (conv => whnf)
  refine ⟨rfl, hx0.len ?_⟩
  (conv => whnf)
  refine (impl_ones _ a0.length (by omega)).mono ?_
  rintro r h1 ⟨y1, rfl, hf⟩
  (conv => whnf)
  refine (impl_acted _ _ a0 _ a1 _ _ (hx0.ext hf.1) (hx1.ext hf.1) hf.ints hC hw (by simp) s1).mono ?_
  rintro r h2 ⟨y2, rfl, hf2⟩
  rw [image_def] at hf2
  have hz := Fresh.inner hf.1 hf2
  (conv => whnf)
  exact ⟨_, rfl, Fresh.of hz.1 hz.2⟩

theorem spec_RhoOf (h : Heap) (x0 : H0) (a0 : List (List Int)) (hx0 : Rows h x0 a0) (hC : isCartan a0 = true) :
    HCalls dm Try.prog 94 [.s x0] h (fun r h' => ∃ y, r = .s y ∧ Fresh h h' y (List.replicate a0.length 1)) := by
  have h4 := ((isCartan_iff a0).1 hC).le
  have E0 := Ext.push h [Row.own []]
  have O0 := Own.none h
  refine calls_of_hFun (m := 0) kd_ok mixed Try.func94 rfl (by kernel_rfl) rfl rfl (of_decide_eq_true rfl) ?_; unfold hFun; (conv => whnf)
  refine HLit.empty ?_
  (conv => whnf)
  refine HLoop.intro [4, 3] [6, 7, 8, 9, 10, 11, 12, 13, 16, 17, 18, 3, 14, 15, 4] (by kernel_rfl) (by kernel_rfl) (fun vs h' => ∃ (k : Nat) (z : H0), vs = [I k, .s z] ∧ k ≤ a0.length ∧ Ext h h' ∧ Own h.length h'.length h' z (List.replicate k 1)) (fun vs _ => a0.length - natAt vs 0) ⟨0, _, rfl, by omega, E0, O0⟩ ?_
  rintro vs h' ⟨k, z, rfl, hk, E, O⟩
  have hx0 := hx0.ext E
  (conv => whnf)
  refine ⟨rfl, hx0.len ?_⟩
  (conv => whnf)
  refine HIf.dec (fun hlt => ?_) (fun hge => ?_)
  · (conv => whnf)
    (repeat (first | (refine ⟨rfl, Ints.len (by assumption) ?_⟩; conv => whnf) | (refine ⟨rfl, Rows.len (by assumption) ?_⟩; conv => whnf) | (refine ⟨rfl, HLen.sl ?_⟩; conv => whnf) | (refine ⟨rfl, At.load (by assumption) ?_⟩; conv => whnf) | (refine HIf.yes ?_; conv => whnf) | (refine HIf.no ?_; conv => whnf) | (refine HIf.isT (by assumption) ?_; conv => whnf) | (refine HIf.isF (by assumption) ?_; conv => whnf) | (refine HIf.decT (by assumption) ?_; conv => whnf) | (refine HIf.decF (by assumption) ?_; conv => whnf) | (refine HIf.beqT (by assumption) ?_; conv => whnf) | (refine HIf.beqF (by assumption) ?_; conv => whnf) | (refine HIf.bneT (by assumption) ?_; conv => whnf) | (refine HIf.bneF (by assumption) ?_; conv => whnf) | (refine ⟨rfl, Ints.idxN (by assumption) (by omega) (fun p hp => ?_)⟩; conv => whnf) | (refine ⟨rfl, Rows.idxN (by assumption) (by omega) (fun p y hp hy => ?_)⟩; conv => whnf) | (refine And.intro (show Kd.isBool _ = true from rfl) ?_; conv => whnf) | (refine ⟨rfl, Ints.idx (by assumption) (by omega) (by omega) (fun p hp => ?_)⟩; conv => whnf) | (refine ⟨rfl, Rows.idx (by assumption) (by omega) (by omega) (fun p y hp hy => ?_)⟩; conv => whnf) | (refine HArith.fits (by omega) (by omega) ?_; conv => whnf) | (refine Or.inl (And.intro (show Region.lexB _ _ = true by kernel_rfl) ?_); conv => whnf)))
    refine (spec_IsCartan _ _ _ hx0 (by omega)).mono ?_
    rintro r h1 ⟨rfl, rfl⟩
    rw [hC]
    (conv => whnf)
    (repeat (first | (refine ⟨rfl, Ints.len (by assumption) ?_⟩; conv => whnf) | (refine ⟨rfl, Rows.len (by assumption) ?_⟩; conv => whnf) | (refine ⟨rfl, HLen.sl ?_⟩; conv => whnf) | (refine ⟨rfl, At.load (by assumption) ?_⟩; conv => whnf) | (refine HIf.yes ?_; conv => whnf) | (refine HIf.no ?_; conv => whnf) | (refine HIf.isT (by assumption) ?_; conv => whnf) | (refine HIf.isF (by assumption) ?_; conv => whnf) | (refine HIf.decT (by assumption) ?_; conv => whnf) | (refine HIf.decF (by assumption) ?_; conv => whnf) | (refine HIf.beqT (by assumption) ?_; conv => whnf) | (refine HIf.beqF (by assumption) ?_; conv => whnf) | (refine HIf.bneT (by assumption) ?_; conv => whnf) | (refine HIf.bneF (by assumption) ?_; conv => whnf) | (refine ⟨rfl, Ints.idxN (by assumption) (by omega) (fun p hp => ?_)⟩; conv => whnf) | (refine ⟨rfl, Rows.idxN (by assumption) (by omega) (fun p y hp hy => ?_)⟩; conv => whnf) | (refine And.intro (show Kd.isBool _ = true from rfl) ?_; conv => whnf) | (refine ⟨rfl, Ints.idx (by assumption) (by omega) (by omega) (fun p hp => ?_)⟩; conv => whnf) | (refine ⟨rfl, Rows.idx (by assumption) (by omega) (by omega) (fun p y hp hy => ?_)⟩; conv => whnf) | (refine HArith.fits (by omega) (by omega) ?_; conv => whnf) | (refine Or.inl (And.intro (show Region.lexB _ _ = true by kernel_rfl) ?_); conv => whnf)))
    refine HLit.one ?_
    (conv => whnf)
    refine ⟨rfl, rfl, HApp.snoc E O (by rw [ones_len]; omega) (fun h2 y2 E2 O2 => ?_)⟩
    rw [← ones_snoc] at O2
    (conv => whnf)
    refine HArith.fits (by omega) (by omega) ?_
    (conv => whnf)
    exact ⟨⟨k + 1, y2, rfl, by omega, E2, O2⟩, by show a0.length - (k + 1) < a0.length - k; omega⟩
  · have e : k = a0.length := by omega
    (conv => whnf)
    (repeat (first | (refine HIf.decF hge ?_; conv => whnf) | (refine HIf.no ?_; conv => whnf)))
    subst e
    exact ⟨_, rfl, Fresh.of E O⟩

theorem spec_l8Image (h : Heap) (x0 : H0) (a0 : List (List Int)) (x1 : H0) (a1 : List Int) (hx0 : Rows h x0 a0) (hx1 : Ints h x1 a1) (hic : isCartan a0 = true) (hw : lettersOk a0 a1 = true) (s1 : a1.length ≤ 1048576) :
    HCalls dm Try.prog 71 [.s x0, .s x1] h (fun r h' => ∃ y, r = .s y ∧ Fresh h h' y (imageOf a0 a1)) := by
  have hC := (isCartan_iff a0).1 hic
  have hp := hC.le
  refine calls_of_hFun (m := 0) kd_ok mixed Try.func71 rfl (by kernel_rfl) rfl rfl (of_decide_eq_true rfl) ?_; unfold hFun; (conv => whnf)
  refine (spec_RhoOf _ _ a0 hx0 hic).mono ?_
  rintro r h1 ⟨y1, rfl, hf⟩
  have hx11 := hx1.ext hf.1
  (conv => whnf)
  refine ⟨rfl, hx11.len ?_⟩
  (conv => whnf)
  refine HArith.fits (by omega) (by omega) ?_
  (conv => whnf)
  refine HLoop.intro [6, 5] [12, 13, 16, 17, 18, 19, 20, 21, 22, 5, 14, 15, 6] (by kernel_rfl) (by kernel_rfl) (fun vs h' => ∃ (k : Nat) (y : H0), vs = [I ((k : Int) - 1), .s y] ∧ k ≤ a1.length ∧ Ext h h' ∧ Own h.length h'.length h' y (actW a0 (a1.drop k) (List.replicate a0.length 1))) (fun vs _ => (intAt vs 0 + 1).toNat) ⟨a1.length, _, rfl, Nat.le_refl _, hf.1, by rw [actW_end]; exact hf.own⟩ ?_
  rintro vs h' ⟨k, y, rfl, hk, E, O⟩
  have hx0 := hx0.ext E
  have hx1 := hx1.ext E
  have hal := actW_length a0 (a1.drop k) (List.replicate a0.length 1)
  rw [ones_len] at hal
  (conv => whnf)
  refine HIf.dec (fun hlt => ?_) (fun hge => ?_)
  · obtain ⟨m, rfl⟩ : ∃ m, k = m + 1 := ⟨k - 1, by omega⟩
    obtain ⟨i, hi, hil⟩ := letter hw (k := m) (by omega)
    have e1 : (((m + 1 : Nat) : Int) - 1).toNat = m := by omega
    have hd := actW_drop a0 a1 (List.replicate a0.length 1) (k := m) (by omega)
    have e2 : (a1.getD m 0).toNat = i := by omega
    rw [e2] at hd
    (conv => whnf)
    refine ⟨rfl, Ints.idx hx1 (by omega) (by omega) (fun p hp => ?_)⟩
    rw [e1, hi] at hp
    (conv => whnf)
    refine ⟨rfl, hp.load ?_⟩
    (conv => whnf)
    refine (spec_l6Reflect _ _ _ a0 i _ hx0 O.ints hC hil (by omega)).mono ?_
    rintro r h3 ⟨y2, rfl, hf2⟩
    rw [← hd] at hf2
    have hz := Fresh.inner E hf2
    (conv => whnf)
    refine HArith.fits (by omega) (by omega) ?_
    (conv => whnf)
    have e3 : ((m + 1 : Nat) : Int) - 1 - 1 = (m : Int) - 1 := by omega
    exact ⟨⟨m, _, by rw [← e3]; rfl, by omega, hz.1, hz.2⟩, by show (((m + 1 : Nat) : Int) - 1 - 1 + 1).toNat < (((m + 1 : Nat) : Int) - 1 + 1).toNat; omega⟩
  · have e : k = 0 := by omega
    subst e
    rw [actW_all, image_def] at O
    (conv => whnf)
    exact ⟨_, rfl, Fresh.of E O⟩

end Go.Proofs.Ytjgnnjegaedinaa.Hx

namespace Go.Proofs.Ytjgnnjegaedinaa.Hx
open Go.RowKit
variable {dm : Bool}

def areSame (c : List (List Int)) (a b : List Int) : Bool := isWord c a && isWord c b && decide (imageOf c a = imageOf c b)

theorem getD_eq (a : List Int) {i : Nat} (h : i < a.length) : a.getD i 0 = a[i] := by simp [List.getD, h]
theorem take_more {a b : List Int} {i : Nat} (ha : i < a.length) (hb : i < b.length) (h : a.take i = b.take i) (e : a.getD i 0 = b.getD i 0) : a.take (i + 1) = b.take (i + 1) := by
  rw [getD_eq a ha, getD_eq b hb] at e
  rw [List.take_succ_eq_append_getElem ha, List.take_succ_eq_append_getElem hb, h, e]
theorem eq_of_take {a b : List Int} (hl : a.length = b.length) (h : a.take a.length = b.take a.length) : a = b := by
  rw [List.take_length, hl, List.take_length] at h
  exact h


theorem lib_Equal (h : Heap) (x y : H0) (a b : List Int) (hx : Ints h x a) (hy : Ints h y b) (hal : a.length ≤ 2199023255552) :
    HCalls dm Try.prog 85 [.s x, .s y] h (fun r h' => r = B (decide (a = b)) ∧ h' = h) := by
  refine calls_of_hFun (m := 0) kd_ok mixed Try.func85 rfl (by kernel_rfl) rfl rfl (of_decide_eq_true rfl) ?_; unfold hFun; (conv => whnf)
  (repeat (first | (refine ⟨rfl, Ints.len (by assumption) ?_⟩; conv => whnf) | (refine ⟨rfl, Rows.len (by assumption) ?_⟩; conv => whnf) | (refine ⟨rfl, HLen.sl ?_⟩; conv => whnf) | (refine ⟨rfl, At.load (by assumption) ?_⟩; conv => whnf) | (refine HIf.yes ?_; conv => whnf) | (refine HIf.no ?_; conv => whnf) | (refine HIf.isT (by assumption) ?_; conv => whnf) | (refine HIf.isF (by assumption) ?_; conv => whnf) | (refine HIf.decT (by assumption) ?_; conv => whnf) | (refine HIf.decF (by assumption) ?_; conv => whnf) | (refine HIf.beqT (by assumption) ?_; conv => whnf) | (refine HIf.beqF (by assumption) ?_; conv => whnf) | (refine HIf.bneT (by assumption) ?_; conv => whnf) | (refine HIf.bneF (by assumption) ?_; conv => whnf) | (refine ⟨rfl, Ints.idxN (by assumption) (by omega) (fun p hp => ?_)⟩; conv => whnf) | (refine ⟨rfl, Rows.idxN (by assumption) (by omega) (fun p y hp hy => ?_)⟩; conv => whnf) | (refine And.intro (show Kd.isBool _ = true from rfl) ?_; conv => whnf) | (refine ⟨rfl, Ints.idx (by assumption) (by omega) (by omega) (fun p hp => ?_)⟩; conv => whnf) | (refine ⟨rfl, Rows.idx (by assumption) (by omega) (by omega) (fun p y hp hy => ?_)⟩; conv => whnf) | (refine HArith.fits (by omega) (by omega) ?_; conv => whnf) | (refine Or.inl (And.intro (show Region.lexB _ _ = true by kernel_rfl) ?_); conv => whnf)))
  refine HIf.bne (fun hne => ?_) (fun heq => ?_)
  · (conv => whnf)
    exact ⟨bEq (decide_eq_false (fun e => hne (by rw [e]))), rfl⟩
  · (conv => whnf)
    (repeat (first | (refine ⟨rfl, Ints.len (by assumption) ?_⟩; conv => whnf) | (refine ⟨rfl, Rows.len (by assumption) ?_⟩; conv => whnf) | (refine ⟨rfl, HLen.sl ?_⟩; conv => whnf) | (refine ⟨rfl, At.load (by assumption) ?_⟩; conv => whnf) | (refine HIf.yes ?_; conv => whnf) | (refine HIf.no ?_; conv => whnf) | (refine HIf.isT (by assumption) ?_; conv => whnf) | (refine HIf.isF (by assumption) ?_; conv => whnf) | (refine HIf.decT (by assumption) ?_; conv => whnf) | (refine HIf.decF (by assumption) ?_; conv => whnf) | (refine HIf.beqT (by assumption) ?_; conv => whnf) | (refine HIf.beqF (by assumption) ?_; conv => whnf) | (refine HIf.bneT (by assumption) ?_; conv => whnf) | (refine HIf.bneF (by assumption) ?_; conv => whnf) | (refine ⟨rfl, Ints.idxN (by assumption) (by omega) (fun p hp => ?_)⟩; conv => whnf) | (refine ⟨rfl, Rows.idxN (by assumption) (by omega) (fun p y hp hy => ?_)⟩; conv => whnf) | (refine And.intro (show Kd.isBool _ = true from rfl) ?_; conv => whnf) | (refine ⟨rfl, Ints.idx (by assumption) (by omega) (by omega) (fun p hp => ?_)⟩; conv => whnf) | (refine ⟨rfl, Rows.idx (by assumption) (by omega) (by omega) (fun p y hp hy => ?_)⟩; conv => whnf) | (refine HArith.fits (by omega) (by omega) ?_; conv => whnf) | (refine Or.inl (And.intro (show Region.lexB _ _ = true by kernel_rfl) ?_); conv => whnf)))
    refine HLoop.intro [13] [14, 15, 5, 16, 17, 18, 19, 20, 21, 22, 23, 24, 4, 25, 13] (by kernel_rfl) (by kernel_rfl) (fun vs h' => ∃ i : Nat, vs = [I i] ∧ h' = h ∧ i ≤ a.length ∧ a.take i = b.take i) (fun vs _ => a.length - natAt vs 0) ⟨0, rfl, rfl, by omega, by simp⟩ ?_
    rintro vs h' ⟨i, rfl, rfl, hi, hab⟩
    (conv => whnf)
    refine HIf.dec (fun hlt => ?_) (fun hge => ?_)
    · (conv => whnf)
      refine Or.inl (And.intro (show Region.lexB _ _ = true by kernel_rfl) ?_); (conv => whnf)
      refine ⟨rfl, Ints.idxN hx (by omega) (fun p hp => ?_)⟩
      (conv => whnf)
      refine ⟨rfl, hp.load ?_⟩
      (conv => whnf)
      refine ⟨rfl, Ints.idxN hy (by omega) (fun p2 hp2 => ?_)⟩
      (conv => whnf)
      refine ⟨rfl, hp2.load ?_⟩
      (conv => whnf)
      refine HIf.bne (fun hne => ?_) (fun he => ?_)
      · (conv => whnf)
        exact ⟨bEq (decide_eq_false (fun e => hne (by rw [e]))), rfl⟩
      · (conv => whnf)
        refine HArith.fits (by omega) (by omega) ?_
        (conv => whnf)
        exact ⟨⟨i + 1, rfl, rfl, by omega, take_more (by omega) (by omega) hab he⟩, by show a.length - (i + 1) < a.length - i; omega⟩
    · have e : i = a.length := by omega
      subst e
      (conv => whnf)
      exact ⟨bEq (decide_eq_true (eq_of_take (by omega) hab)), rfl⟩

theorem spec_CompareWords (h : Heap) (x y : H0) (a b : List Int) (hx : Ints h x a) (hy : Ints h y b) (hal : a.length ≤ 2199023255552) :
    HCalls dm Try.prog 84 [.s x, .s y] h (fun r h' => ∃ n, r = I n ∧ (n = 0 ↔ a = b) ∧ h' = h) := by
  refine calls_of_hFun (m := 0) kd_ok mixed Try.func84 rfl (by kernel_rfl) rfl rfl (of_decide_eq_true rfl) ?_; unfold hFun; (conv => whnf)
  (repeat (first | (refine ⟨rfl, Ints.len (by assumption) ?_⟩; conv => whnf) | (refine ⟨rfl, Rows.len (by assumption) ?_⟩; conv => whnf) | (refine ⟨rfl, HLen.sl ?_⟩; conv => whnf) | (refine ⟨rfl, At.load (by assumption) ?_⟩; conv => whnf) | (refine HIf.yes ?_; conv => whnf) | (refine HIf.no ?_; conv => whnf) | (refine HIf.isT (by assumption) ?_; conv => whnf) | (refine HIf.isF (by assumption) ?_; conv => whnf) | (refine HIf.decT (by assumption) ?_; conv => whnf) | (refine HIf.decF (by assumption) ?_; conv => whnf) | (refine HIf.beqT (by assumption) ?_; conv => whnf) | (refine HIf.beqF (by assumption) ?_; conv => whnf) | (refine HIf.bneT (by assumption) ?_; conv => whnf) | (refine HIf.bneF (by assumption) ?_; conv => whnf) | (refine ⟨rfl, Ints.idxN (by assumption) (by omega) (fun p hp => ?_)⟩; conv => whnf) | (refine ⟨rfl, Rows.idxN (by assumption) (by omega) (fun p y hp hy => ?_)⟩; conv => whnf) | (refine And.intro (show Kd.isBool _ = true from rfl) ?_; conv => whnf) | (refine ⟨rfl, Ints.idx (by assumption) (by omega) (by omega) (fun p hp => ?_)⟩; conv => whnf) | (refine ⟨rfl, Rows.idx (by assumption) (by omega) (by omega) (fun p y hp hy => ?_)⟩; conv => whnf) | (refine HArith.fits (by omega) (by omega) ?_; conv => whnf) | (refine Or.inl (And.intro (show Region.lexB _ _ = true by kernel_rfl) ?_); conv => whnf)))
  refine HIf.bne (fun hne => ?_) (fun heq => ?_)
  · have hn : ¬ a = b := fun e => hne (by rw [e])
    (conv => whnf)
    (repeat (first | (refine ⟨rfl, Ints.len (by assumption) ?_⟩; conv => whnf) | (refine ⟨rfl, Rows.len (by assumption) ?_⟩; conv => whnf) | (refine ⟨rfl, HLen.sl ?_⟩; conv => whnf) | (refine ⟨rfl, At.load (by assumption) ?_⟩; conv => whnf) | (refine HIf.yes ?_; conv => whnf) | (refine HIf.no ?_; conv => whnf) | (refine HIf.isT (by assumption) ?_; conv => whnf) | (refine HIf.isF (by assumption) ?_; conv => whnf) | (refine HIf.decT (by assumption) ?_; conv => whnf) | (refine HIf.decF (by assumption) ?_; conv => whnf) | (refine HIf.beqT (by assumption) ?_; conv => whnf) | (refine HIf.beqF (by assumption) ?_; conv => whnf) | (refine HIf.bneT (by assumption) ?_; conv => whnf) | (refine HIf.bneF (by assumption) ?_; conv => whnf) | (refine ⟨rfl, Ints.idxN (by assumption) (by omega) (fun p hp => ?_)⟩; conv => whnf) | (refine ⟨rfl, Rows.idxN (by assumption) (by omega) (fun p y hp hy => ?_)⟩; conv => whnf) | (refine And.intro (show Kd.isBool _ = true from rfl) ?_; conv => whnf) | (refine ⟨rfl, Ints.idx (by assumption) (by omega) (by omega) (fun p hp => ?_)⟩; conv => whnf) | (refine ⟨rfl, Rows.idx (by assumption) (by omega) (by omega) (fun p y hp hy => ?_)⟩; conv => whnf) | (refine HArith.fits (by omega) (by omega) ?_; conv => whnf) | (refine Or.inl (And.intro (show Region.lexB _ _ = true by kernel_rfl) ?_); conv => whnf)))
    refine HIf.dec (fun _ => ?_) (fun _ => ?_)
    · (conv => whnf)
      exact ⟨_, rfl, by simp [hn], rfl⟩
    · (conv => whnf)
      exact ⟨_, rfl, by simp [hn], rfl⟩
  · (conv => whnf)
    refine HLoop.intro [5] [16, 17, 18, 19, 22, 23, 24, 25, 26, 27, 28, 29, 30, 4, 31, 32, 33, 34, 35, 36, 37, 38, 39, 4, 20, 21, 5] (by kernel_rfl) (by kernel_rfl) (fun vs h' => ∃ i : Nat, vs = [I i] ∧ h' = h ∧ i ≤ a.length ∧ a.take i = b.take i) (fun vs _ => a.length - natAt vs 0) ⟨0, rfl, rfl, by omega, by simp⟩ ?_
    rintro vs h' ⟨i, rfl, rfl, hi, hab⟩
    (conv => whnf)
    refine ⟨rfl, hx.len ?_⟩
    (conv => whnf)
    refine HIf.dec (fun hlt => ?_) (fun hge => ?_)
    · (conv => whnf)
      refine Or.inl (And.intro (show Region.lexB _ _ = true by kernel_rfl) ?_); (conv => whnf)
      refine ⟨rfl, Ints.idxN hx (by omega) (fun p hp => ?_)⟩
      (conv => whnf)
      refine ⟨rfl, hp.load ?_⟩
      (conv => whnf)
      refine ⟨rfl, Ints.idxN hy (by omega) (fun p2 hp2 => ?_)⟩
      (conv => whnf)
      refine ⟨rfl, hp2.load ?_⟩
      (conv => whnf)
      refine HIf.dec (fun h1 => ?_) (fun h1 => ?_)
      · have hn : ¬ a = b := fun e => by rw [e] at h1; omega
        (conv => whnf)
        exact ⟨_, rfl, by simp [hn], rfl⟩
      · (conv => whnf)
        refine Or.inl (And.intro (show Region.lexB _ _ = true by kernel_rfl) ?_); (conv => whnf)
        refine ⟨rfl, Ints.idxN hx (by omega) (fun p3 hp3 => ?_)⟩
        (conv => whnf)
        refine ⟨rfl, hp3.load ?_⟩
        (conv => whnf)
        refine ⟨rfl, Ints.idxN hy (by omega) (fun p4 hp4 => ?_)⟩
        (conv => whnf)
        refine ⟨rfl, hp4.load ?_⟩
        (conv => whnf)
        refine HIf.dec (fun h2 => ?_) (fun h2 => ?_)
        · have hn : ¬ a = b := fun e => by rw [e] at h2; omega
          (conv => whnf)
          exact ⟨_, rfl, by simp [hn], rfl⟩
        · (conv => whnf)
          refine HArith.fits (by omega) (by omega) ?_
          (conv => whnf)
          exact ⟨⟨i + 1, rfl, rfl, by omega, take_more (by omega) (by omega) hab (by omega)⟩, by show a.length - (i + 1) < a.length - i; omega⟩
    · have e : i = a.length := by omega
      subst e
      (conv => whnf)
      exact ⟨_, rfl, by simp [eq_of_take (by omega) hab], rfl⟩

theorem spec_EqualWords (h : Heap) (x y : H0) (a b : List Int) (hx : Ints h x a) (hy : Ints h y b) (hal : a.length ≤ 2199023255552) :
    HCalls dm Try.prog 51 [.s x, .s y] h (fun r h' => r = B (decide (a = b)) ∧ h' = h) := by
  refine calls_of_hFun (m := 0) kd_ok mixed Try.func51 rfl (by kernel_rfl) rfl rfl (of_decide_eq_true rfl) ?_; unfold hFun; (conv => whnf)
  refine (spec_CompareWords _ _ _ a b hx hy hal).mono ?_
  rintro r h' ⟨n, rfl, hn, rfl⟩
  (conv => whnf)
  refine ⟨bEq ?_, rfl⟩
  by_cases e : a = b
  · simp [e, hn.2 e]
  · simp [e, hn]

theorem impl_AreSame (h : Heap) (x0 : H0) (a0 : List (List Int)) (x1 : H0) (a1 : List Int) (x2 : H0) (a2 : List Int) (hx0 : Rows h x0 a0) (hx1 : Ints h x1 a1) (hx2 : Ints h x2 a2) (s0 : a0.length ≤ 1048576 ∧ tot a0 ≤ 1048576) (s1 : a1.length ≤ 1048576) (s2 : a2.length ≤ 1048576) :
    HCalls dm Try.prog 10 [.s x0, .s x1, .s x2] h (fun r h' => r = B (areSame a0 a1 a2) ∧ Ext h h') := by
  have same : ∀ (hc1 : isWord a0 a1 = true) (hc2 : isWord a0 a2 = true), HCalls dm Try.prog 53 [.s x0, .s x1, .s x2] h (fun r h' => r = B (areSame a0 a1 a2) ∧ Ext h h') := by
    intro hc1 hc2
    have w1 := word_cartan hc1
    have w2 := word_cartan hc2
    have h4 := w1.1.le
    refine calls_of_hFun (m := 0) kd_ok mixed Try.func53 rfl (by kernel_rfl) rfl rfl (of_decide_eq_true rfl) ?_; unfold hFun; (conv => whnf)
    refine (impl_image _ _ a0 _ a1 hx0 hx1 w1.1 w1.2.2 s1).mono ?_
    rintro r h1 ⟨y1, rfl, f1⟩
    (conv => whnf)
    refine (impl_image _ _ a0 _ a2 (hx0.ext f1.1) (hx2.ext f1.1) w2.1 w2.2.2 s2).mono ?_
    rintro r h2 ⟨y2, rfl, f2⟩
    (conv => whnf)
    refine (lib_Equal _ _ _ _ _ (f1.ints.ext f2.1) f2.ints (by rw [imageOf_length]; omega)).mono ?_
    rintro r h3 ⟨rfl, rfl⟩
    (conv => whnf)
    exact ⟨bEq (by simp [areSame, hc1, hc2]), f1.1.trans f2.1⟩
  refine calls_of_hFun (m := 0) kd_ok mixed Try.func10 rfl (by kernel_rfl) rfl rfl (of_decide_eq_true rfl) ?_; unfold hFun; (conv => whnf)
  refine (impl_IsWord _ _ _ a0 a1 hx0 hx1 (by omega) (by omega)).mono ?_
  rintro r h1 ⟨rfl, rfl⟩
  (conv => whnf)
  cases hc1 : isWord a0 a1
  · (repeat (first | (refine ⟨rfl, Ints.len (by assumption) ?_⟩; conv => whnf) | (refine ⟨rfl, Rows.len (by assumption) ?_⟩; conv => whnf) | (refine ⟨rfl, HLen.sl ?_⟩; conv => whnf) | (refine ⟨rfl, At.load (by assumption) ?_⟩; conv => whnf) | (refine HIf.yes ?_; conv => whnf) | (refine HIf.no ?_; conv => whnf) | (refine HIf.isT (by assumption) ?_; conv => whnf) | (refine HIf.isF (by assumption) ?_; conv => whnf) | (refine HIf.decT (by assumption) ?_; conv => whnf) | (refine HIf.decF (by assumption) ?_; conv => whnf) | (refine HIf.beqT (by assumption) ?_; conv => whnf) | (refine HIf.beqF (by assumption) ?_; conv => whnf) | (refine HIf.bneT (by assumption) ?_; conv => whnf) | (refine HIf.bneF (by assumption) ?_; conv => whnf) | (refine ⟨rfl, Ints.idxN (by assumption) (by omega) (fun p hp => ?_)⟩; conv => whnf) | (refine ⟨rfl, Rows.idxN (by assumption) (by omega) (fun p y hp hy => ?_)⟩; conv => whnf) | (refine And.intro (show Kd.isBool _ = true from rfl) ?_; conv => whnf) | (refine ⟨rfl, Ints.idx (by assumption) (by omega) (by omega) (fun p hp => ?_)⟩; conv => whnf) | (refine ⟨rfl, Rows.idx (by assumption) (by omega) (by omega) (fun p y hp hy => ?_)⟩; conv => whnf) | (refine HArith.fits (by omega) (by omega) ?_; conv => whnf) | (refine Or.inl (And.intro (show Region.lexB _ _ = true by kernel_rfl) ?_); conv => whnf)))
    exact ⟨bEq (by simp [areSame, hc1]), Ext.refl _⟩
  (repeat (first | (refine ⟨rfl, Ints.len (by assumption) ?_⟩; conv => whnf) | (refine ⟨rfl, Rows.len (by assumption) ?_⟩; conv => whnf) | (refine ⟨rfl, HLen.sl ?_⟩; conv => whnf) | (refine ⟨rfl, At.load (by assumption) ?_⟩; conv => whnf) | (refine HIf.yes ?_; conv => whnf) | (refine HIf.no ?_; conv => whnf) | (refine HIf.isT (by assumption) ?_; conv => whnf) | (refine HIf.isF (by assumption) ?_; conv => whnf) | (refine HIf.decT (by assumption) ?_; conv => whnf) | (refine HIf.decF (by assumption) ?_; conv => whnf) | (refine HIf.beqT (by assumption) ?_; conv => whnf) | (refine HIf.beqF (by assumption) ?_; conv => whnf) | (refine HIf.bneT (by assumption) ?_; conv => whnf) | (refine HIf.bneF (by assumption) ?_; conv => whnf) | (refine ⟨rfl, Ints.idxN (by assumption) (by omega) (fun p hp => ?_)⟩; conv => whnf) | (refine ⟨rfl, Rows.idxN (by assumption) (by omega) (fun p y hp hy => ?_)⟩; conv => whnf) | (refine And.intro (show Kd.isBool _ = true from rfl) ?_; conv => whnf) | (refine ⟨rfl, Ints.idx (by assumption) (by omega) (by omega) (fun p hp => ?_)⟩; conv => whnf) | (refine ⟨rfl, Rows.idx (by assumption) (by omega) (by omega) (fun p y hp hy => ?_)⟩; conv => whnf) | (refine HArith.fits (by omega) (by omega) ?_; conv => whnf) | (refine Or.inl (And.intro (show Region.lexB _ _ = true by kernel_rfl) ?_); conv => whnf)))
  refine (impl_IsWord _ _ _ a0 a2 hx0 hx2 (by omega) (by omega)).mono ?_
  rintro r h1 ⟨rfl, rfl⟩
  (conv => whnf)
  cases hc2 : isWord a0 a2
  · (repeat (first | (refine ⟨rfl, Ints.len (by assumption) ?_⟩; conv => whnf) | (refine ⟨rfl, Rows.len (by assumption) ?_⟩; conv => whnf) | (refine ⟨rfl, HLen.sl ?_⟩; conv => whnf) | (refine ⟨rfl, At.load (by assumption) ?_⟩; conv => whnf) | (refine HIf.yes ?_; conv => whnf) | (refine HIf.no ?_; conv => whnf) | (refine HIf.isT (by assumption) ?_; conv => whnf) | (refine HIf.isF (by assumption) ?_; conv => whnf) | (refine HIf.decT (by assumption) ?_; conv => whnf) | (refine HIf.decF (by assumption) ?_; conv => whnf) | (refine HIf.beqT (by assumption) ?_; conv => whnf) | (refine HIf.beqF (by assumption) ?_; conv => whnf) | (refine HIf.bneT (by assumption) ?_; conv => whnf) | (refine HIf.bneF (by assumption) ?_; conv => whnf) | (refine ⟨rfl, Ints.idxN (by assumption) (by omega) (fun p hp => ?_)⟩; conv => whnf) | (refine ⟨rfl, Rows.idxN (by assumption) (by omega) (fun p y hp hy => ?_)⟩; conv => whnf) | (refine And.intro (show Kd.isBool _ = true from rfl) ?_; conv => whnf) | (refine ⟨rfl, Ints.idx (by assumption) (by omega) (by omega) (fun p hp => ?_)⟩; conv => whnf) | (refine ⟨rfl, Rows.idx (by assumption) (by omega) (by omega) (fun p y hp hy => ?_)⟩; conv => whnf) | (refine HArith.fits (by omega) (by omega) ?_; conv => whnf) | (refine Or.inl (And.intro (show Region.lexB _ _ = true by kernel_rfl) ?_); conv => whnf)))
    exact ⟨bEq (by simp [areSame, hc2]), Ext.refl _⟩
  (repeat (first | (refine ⟨rfl, Ints.len (by assumption) ?_⟩; conv => whnf) | (refine ⟨rfl, Rows.len (by assumption) ?_⟩; conv => whnf) | (refine ⟨rfl, HLen.sl ?_⟩; conv => whnf) | (refine ⟨rfl, At.load (by assumption) ?_⟩; conv => whnf) | (refine HIf.yes ?_; conv => whnf) | (refine HIf.no ?_; conv => whnf) | (refine HIf.isT (by assumption) ?_; conv => whnf) | (refine HIf.isF (by assumption) ?_; conv => whnf) | (refine HIf.decT (by assumption) ?_; conv => whnf) | (refine HIf.decF (by assumption) ?_; conv => whnf) | (refine HIf.beqT (by assumption) ?_; conv => whnf) | (refine HIf.beqF (by assumption) ?_; conv => whnf) | (refine HIf.bneT (by assumption) ?_; conv => whnf) | (refine HIf.bneF (by assumption) ?_; conv => whnf) | (refine ⟨rfl, Ints.idxN (by assumption) (by omega) (fun p hp => ?_)⟩; conv => whnf) | (refine ⟨rfl, Rows.idxN (by assumption) (by omega) (fun p y hp hy => ?_)⟩; conv => whnf) | (refine And.intro (show Kd.isBool _ = true from rfl) ?_; conv => whnf) | (refine ⟨rfl, Ints.idx (by assumption) (by omega) (by omega) (fun p hp => ?_)⟩; conv => whnf) | (refine ⟨rfl, Rows.idx (by assumption) (by omega) (by omega) (fun p y hp hy => ?_)⟩; conv => whnf) | (refine HArith.fits (by omega) (by omega) ?_; conv => whnf) | (refine Or.inl (And.intro (show Region.lexB _ _ = true by kernel_rfl) ?_); conv => whnf)))
  refine (same hc1 hc2).mono ?_
  rintro r h2 ⟨rfl, E⟩
  (conv => whnf)
  (repeat (first | (refine HIf.yes ?_; conv => whnf)))
  exact ⟨rfl, E⟩

end Go.Proofs.Ytjgnnjegaedinaa.Hx

namespace Go.Proofs.Ytjgnnjegaedinaa.Hx
open Go.RowKit
variable {dm : Bool}

def descs (v : List Int) (k : Nat) : List Int := ((List.range k).filter fun j => decide (v.getD j 0 < 0)).map fun (j : Nat) => (j : Int)

theorem descs_none (v : List Int) : descs v 0 = [] := rfl
theorem descs_le (v : List Int) (k : Nat) : (descs v k).length ≤ k := by
  have := List.length_filter_le (fun j => decide (v.getD j 0 < 0)) (List.range k)
  simp [descs] at this ⊢
  exact this
theorem descs_in (v : List Int) (k : Nat) (h : v.getD k 0 < 0) : descs v (k + 1) = descs v k ++ [(k : Int)] := by
  unfold descs
  rw [List.range_succ, List.filter_append, List.map_append, List.filter_cons_of_pos (p := fun j => decide (v.getD j 0 < 0)) (decide_eq_true h), List.filter_nil]
  rfl
theorem descs_out (v : List Int) (k : Nat) (h : ¬ v.getD k 0 < 0) : descs v (k + 1) = descs v k := by
  unfold descs
  rw [List.range_succ, List.filter_append, List.map_append, List.filter_cons_of_neg (p := fun j => decide (v.getD j 0 < 0)) (by simp only [decide_eq_true_eq]; exact h), List.filter_nil, List.map_nil, List.append_nil]

def leftDescents (c : List (List Int)) (w : List Int) : List Int := if isWord c w then descs (imageOf c w) c.length else []
theorem leftDescents_length (c : List (List Int)) (w : List Int) : (leftDescents c w).length ≤ c.length := by
  unfold leftDescents
  split
  · exact descs_le _ _
  · simp
theorem leftDescents_off {c : List (List Int)} {w : List Int} (h : isWord c w = false) : leftDescents c w = [] := by simp [leftDescents, h]
theorem leftDescents_on {c : List (List Int)} {w : List Int} (h : isWord c w = true) : leftDescents c w = descs (imageOf c w) (imageOf c w).length := by rw [imageOf_length]; simp [leftDescents, h]

theorem Own.widen {b e e' : Nat} {h : Heap} {x : H0} {l : List Int} (H : Own b e h x l) (k : e ≤ e') : Own b e' h x l := by
  obtain ⟨r, t, g1, g2, g3, hr⟩ := H
  exact ⟨r, t, g1, g2, by omega, hr⟩


theorem impl_descents (h : Heap) (x : H0) (v : List Int) (hx : Ints h x v) (hv : v.length ≤ 1048576) : HCalls dm Try.prog 70 [.s x] h (fun r h' => ∃ y, r = .s y ∧ Fresh h h' y (descs v v.length)) := by
  have E0 := Ext.push h [Row.own []]
  have O0 := Own.none h
  have hx0 := hx.ext E0
  refine calls_of_hFun (m := 0) kd_ok mixed Try.func70 rfl (by kernel_rfl) rfl rfl (of_decide_eq_true rfl) ?_; unfold hFun; (conv => whnf)
  refine HLit.empty ?_
  (conv => whnf)
  refine ⟨rfl, hx0.len ?_⟩
  (conv => whnf)
  refine HLoop.intro [9, 3] [10, 11, 12, 13, 4, 5, 14, 15, 16, 17, 18, 19, 3, 20, 9] (by kernel_rfl) (by kernel_rfl) (fun vs h' => ∃ (k : Nat) (z : H0), vs = [I k, .s z] ∧ k ≤ v.length ∧ Ext h h' ∧ Own h.length h'.length h' z (descs v k)) (fun vs _ => v.length - natAt vs 0) ⟨0, _, rfl, by omega, E0, O0⟩ ?_
  rintro vs h' ⟨k, z, rfl, hk, E, O⟩
  have hx := hx.ext E
  have hdl := descs_le v k
  (conv => whnf)
  refine HIf.dec (fun hlt => ?_) (fun hge => ?_)
  · (conv => whnf)
    refine ⟨rfl, Ints.idxN hx (by omega) (fun p hp => ?_)⟩
    (conv => whnf)
    refine ⟨rfl, hp.load ?_⟩
    (conv => whnf)
    refine HIf.dec (fun hneg => ?_) (fun hpos => ?_)
    · (conv => whnf)
      refine HLit.one ?_
      (conv => whnf)
      refine ⟨rfl, rfl, HApp.snoc E O (by omega) (fun h2 y2 E2 O2 => ?_)⟩
      rw [← descs_in v k hneg] at O2
      (conv => whnf)
      refine HArith.fits (by omega) (by omega) ?_
      (conv => whnf)
      exact ⟨⟨k + 1, y2, rfl, by omega, E2, O2⟩, by show v.length - (k + 1) < v.length - k; omega⟩
    · rw [← descs_out v k hpos] at O
      (conv => whnf)
      refine HArith.fits (by omega) (by omega) ?_
      (conv => whnf)
      exact ⟨⟨k + 1, z, rfl, by omega, E, O⟩, by show v.length - (k + 1) < v.length - k; omega⟩
  · (conv => whnf)
    have e : k = v.length := by omega
    subst e
    exact ⟨_, rfl, Fresh.of E O⟩

theorem impl_LeftDescents (h : Heap) (x0 : H0) (a0 : List (List Int)) (x1 : H0) (a1 : List Int) (hx0 : Rows h x0 a0) (hx1 : Ints h x1 a1) (s0 : a0.length ≤ 1048576 ∧ tot a0 ≤ 1048576) (s1 : a1.length ≤ 1048576) :
    HCalls dm Try.prog 31 [.s x0, .s x1] h (fun r h' => ∃ y, r = .s y ∧ Fresh h h' y (leftDescents a0 a1)) := by
  refine calls_of_hFun (m := 0) kd_ok mixed Try.func31 rfl (by kernel_rfl) rfl rfl (of_decide_eq_true rfl) ?_; unfold hFun; (conv => whnf)
  refine (impl_IsWord _ _ _ a0 a1 hx0 hx1 (by omega) (by omega)).mono ?_
  rintro r h1 ⟨rfl, rfl⟩
  (conv => whnf)
  cases hic : isWord a0 a1
  · (repeat (first | (refine ⟨rfl, Ints.len (by assumption) ?_⟩; conv => whnf) | (refine ⟨rfl, Rows.len (by assumption) ?_⟩; conv => whnf) | (refine ⟨rfl, HLen.sl ?_⟩; conv => whnf) | (refine ⟨rfl, At.load (by assumption) ?_⟩; conv => whnf) | (refine HIf.yes ?_; conv => whnf) | (refine HIf.no ?_; conv => whnf) | (refine HIf.isT (by assumption) ?_; conv => whnf) | (refine HIf.isF (by assumption) ?_; conv => whnf) | (refine HIf.decT (by assumption) ?_; conv => whnf) | (refine HIf.decF (by assumption) ?_; conv => whnf) | (refine HIf.beqT (by assumption) ?_; conv => whnf) | (refine HIf.beqF (by assumption) ?_; conv => whnf) | (refine HIf.bneT (by assumption) ?_; conv => whnf) | (refine HIf.bneF (by assumption) ?_; conv => whnf) | (refine ⟨rfl, Ints.idxN (by assumption) (by omega) (fun p hp => ?_)⟩; conv => whnf) | (refine ⟨rfl, Rows.idxN (by assumption) (by omega) (fun p y hp hy => ?_)⟩; conv => whnf) | (refine And.intro (show Kd.isBool _ = true from rfl) ?_; conv => whnf) | (refine ⟨rfl, Ints.idx (by assumption) (by omega) (by omega) (fun p hp => ?_)⟩; conv => whnf) | (refine ⟨rfl, Rows.idx (by assumption) (by omega) (by omega) (fun p y hp hy => ?_)⟩; conv => whnf) | (refine HArith.fits (by omega) (by omega) ?_; conv => whnf) | (refine Or.inl (And.intro (show Region.lexB _ _ = true by kernel_rfl) ?_); conv => whnf)))
    refine HLit.empty ?_
    (conv => whnf)
    exact ⟨_, rfl, Fresh.none _ (leftDescents_off hic)⟩
  obtain ⟨hC, _, hw⟩ := word_cartan hic
  rw [leftDescents_on hic]
  (repeat (first | (refine ⟨rfl, Ints.len (by assumption) ?_⟩; conv => whnf) | (refine ⟨rfl, Rows.len (by assumption) ?_⟩; conv => whnf) | (refine ⟨rfl, HLen.sl ?_⟩; conv => whnf) | (refine ⟨rfl, At.load (by assumption) ?_⟩; conv => whnf) | (refine HIf.yes ?_; conv => whnf) | (refine HIf.no ?_; conv => whnf) | (refine HIf.isT (by assumption) ?_; conv => whnf) | (refine HIf.isF (by assumption) ?_; conv => whnf) | (refine HIf.decT (by assumption) ?_; conv => whnf) | (refine HIf.decF (by assumption) ?_; conv => whnf) | (refine HIf.beqT (by assumption) ?_; conv => whnf) | (refine HIf.beqF (by assumption) ?_; conv => whnf) | (refine HIf.bneT (by assumption) ?_; conv => whnf) | (refine HIf.bneF (by assumption) ?_; conv => whnf) | (refine ⟨rfl, Ints.idxN (by assumption) (by omega) (fun p hp => ?_)⟩; conv => whnf) | (refine ⟨rfl, Rows.idxN (by assumption) (by omega) (fun p y hp hy => ?_)⟩; conv => whnf) | (refine And.intro (show Kd.isBool _ = true from rfl) ?_; conv => whnf) | (refine ⟨rfl, Ints.idx (by assumption) (by omega) (by omega) (fun p hp => ?_)⟩; conv => whnf) | (refine ⟨rfl, Rows.idx (by assumption) (by omega) (by omega) (fun p y hp hy => ?_)⟩; conv => whnf) | (refine HArith.fits (by omega) (by omega) ?_; conv => whnf) | (refine Or.inl (And.intro (show Region.lexB _ _ = true by kernel_rfl) ?_); conv => whnf)))
  refine (impl_image _ _ a0 _ a1 hx0 hx1 hC hw s1).mono ?_
  rintro r h2 ⟨y1, rfl, f1⟩
  (conv => whnf)
  refine (impl_descents _ _ _ f1.ints (by rw [imageOf_length]; omega)).mono ?_
  rintro r h3 ⟨y2, rfl, f2⟩
  have hz := Fresh.inner f1.1 f2
  (conv => whnf)
  exact ⟨_, rfl, Fresh.of hz.1 hz.2⟩

end Go.Proofs.Ytjgnnjegaedinaa.Hx

namespace Go.Proofs.Ytjgnnjegaedinaa.Hx
open Go.RowKit

/-- A slice of ints in row r, one's own. -/
def OwnR (r : Nat) (h : Heap) (x : H0) (l : List Int) : Prop := ∃ t, x = .sl r 0 l.length ∧ h[r]? = some (.own (l.map ci ++ t))

/-- All rows but r are as they were. -/
def But (r : Nat) (h h' : Heap) : Prop := h.length ≤ h'.length ∧ ∀ q, q < h.length → q ≠ r → h'[q]? = h[q]?

theorem OwnR.ints {r : Nat} {h : Heap} {x : H0} {l : List Int} (H : OwnR r h x l) : Ints h x l := by
  obtain ⟨t, rfl, hr⟩ := H
  exact Ints.ofOwn hr
theorem OwnR.lt {r : Nat} {h : Heap} {x : H0} {l : List Int} (H : OwnR r h x l) : r < h.length := by
  obtain ⟨t, rfl, hr⟩ := H
  exact get_lt hr
theorem OwnR.own {b r : Nat} {h : Heap} {x : H0} {l : List Int} (H : OwnR r h x l) (hb : b ≤ r) : Own b h.length h x l := by
  have := H.lt
  obtain ⟨t, rfl, hr⟩ := H
  exact ⟨r, t, rfl, hb, this, hr⟩
theorem Own.row {b e : Nat} {h : Heap} {x : H0} {l : List Int} (H : Own b e h x l) : ∃ r, b ≤ r ∧ r < e ∧ OwnR r h x l := by
  obtain ⟨r, t, g1, g2, g3, hr⟩ := H
  exact ⟨r, g2, g3, t, g1, hr⟩
theorem Fresh.row {h h' : Heap} {x : H0} {l : List Int} (H : Fresh h h' x l) : ∃ r, h.length ≤ r ∧ OwnR r h' x l := by
  obtain ⟨_, r, t, g1, g2, hr⟩ := H
  exact ⟨r, g2, t, g1, hr⟩
theorem Fresh.ofRow {h h' : Heap} {x : H0} {l : List Int} {r : Nat} (E : Ext h h') (H : OwnR r h' x l) (hr : h.length ≤ r) : Fresh h h' x l := by
  obtain ⟨t, g1, g2⟩ := H
  exact ⟨E, r, t, g1, hr, g2⟩
theorem OwnR.ext {r : Nat} {h h' : Heap} {x : H0} {l : List Int} (H : OwnR r h x l) (k : Ext h h') : OwnR r h' x l := by
  obtain ⟨t, g1, hr⟩ := H
  exact ⟨t, g1, k.row hr⟩
theorem OwnR.but {r q : Nat} {h h' : Heap} {x : H0} {l : List Int} (H : OwnR r h x l) (k : But q h h') (n : r ≠ q) : OwnR r h' x l := by
  have := H.lt
  obtain ⟨t, g1, hr⟩ := H
  exact ⟨t, g1, by rw [k.2 r this n]; exact hr⟩
theorem Ext.but {hb h h' : Heap} {r : Nat} (E : Ext hb h) (k : But r h h') (hr : hb.length ≤ r) : Ext hb h' :=
  ⟨Nat.le_trans E.1 k.1, fun q hq => by rw [k.2 q (Nat.lt_of_lt_of_le hq E.1) (by omega)]; exact E.2 q hq⟩
theorem But.ext {h h' h'' : Heap} {r : Nat} (E : Ext h h') (k : But r h' h'') : But r h h'' :=
  ⟨Nat.le_trans E.1 k.1, fun q hq hn => by rw [k.2 q (Nat.lt_of_lt_of_le hq E.1) hn]; exact E.2 q hq⟩
theorem OwnR.push (h : Heap) (l : List Int) : OwnR h.length (h ++ [.own (l.map ci)]) (.sl h.length 0 l.length) l := ⟨[], rfl, by rw [List.append_nil]; exact get_new _ _⟩

/-- Ints, appended to what one has. -/
theorem HApp.moreR {r : Nat} {h : Heap} {x y : H0} {l m : List Int} {K : HV → Heap → Prop} (H : OwnR r h y l) (hx : Ints h x m) (hl : l.length + m.length ≤ 2199023255552)
    (hK : ∀ h' r' y', But r h h' → h.length ≤ r' → OwnR r' h' y' (l ++ m) → K (.s y') h') : HApp h (.s y) (.s x) K := by
  obtain ⟨t, rfl, hr⟩ := H
  refine ⟨m.map ci, hx, ci_one m, l.map ci ++ t, rfl, hr, by simp, Or.inl ⟨by simpa using hl, ?_⟩⟩
  have e1 : l.length + (m.map ci).length = (l ++ m).length := by simp
  have e2 : (l.map ci ++ t).take l.length ++ m.map ci = (l ++ m).map ci := by rw [List.take_append_of_le_length (by simp), List.take_of_length_le (by simp)]; simp
  rw [e1, e2]
  refine hK _ h.length _ ⟨by simp, fun q hq hn => ?_⟩ (Nat.le_refl _) ⟨[], rfl, ?_⟩
  · rw [List.getElem?_append_left (by simpa using hq), List.getElem?_set_ne (Ne.symm hn)]
  · rw [List.getElem?_append_right (by simp)]
    simp

/-- A literal of numbers, appended to what one has. -/
theorem HApp.litR {r : Nat} {h : Heap} {y : H0} {l : List Int} (m : List Int) {K : HV → Heap → Prop} (H : OwnR r h y l) (hl : l.length + m.length ≤ 2199023255552)
    (hK : ∀ h' r' y', But r h h' → h.length ≤ r' → OwnR r' h' y' (l ++ m) → K (.s y') h') : HApp (h ++ [.own (m.map ci)]) (.s y) (.s (.sl h.length 0 m.length)) K :=
  HApp.moreR (H.ext (Ext.push _ _)) (OwnR.push h m).ints hl (fun h' r' y' k k2 k3 => hK h' r' y' (But.ext (Ext.push _ _) k) (by simp at k2; omega) k3)

/-- A slice of ints, appended to a slice of such slices. -/
theorem HApp.snocM {hb h h2 : Heap} {z y : H0} {L : List (List Int)} {l : List Int} {K : HV → Heap → Prop} (E : Ext hb h) (O : OwnM hb.length h.length h z L) (E2 : Ext h h2) (F : Own h.length h2.length h2 y l) (hl : L.length < 2199023255552)
    (hK : ∀ h' z', Ext hb h' → OwnM hb.length h'.length h' z' (L ++ [l]) → K (.s z') h') : HApp (h2 ++ [.own [y]]) (.s z) (.s (.sl h2.length 0 1)) K := by
  have l1 := E.1
  have l2 := E2.1
  obtain ⟨r, ρ, rfl, hr1, hr2, hρ, m⟩ := O
  obtain ⟨q, t, rfl, hq1, hq2, hq⟩ := F
  obtain ⟨cs, ho, hcl, hoc⟩ := m.outer
  refine ⟨[.sl q 0 l.length], ?_, by simp [H0.one], cs, rfl, (Ext.push h2 _).row (E2.row ho), hcl, Or.inl ⟨by simp; omega, ?_⟩⟩
  · have := Shows.own h2.length 0 1 _ (get_new h2 (.own [.sl q 0 l.length])) (by simp)
    simpa using this
  have e1 : L.length + [H0.sl q 0 l.length].length = (L ++ [l]).length := by simp
  rw [e1]
  have old : ∀ p, p < h2.length → p ≠ r → ((h2 ++ [Row.own [.sl q 0 l.length]]).set r .gone ++ [Row.own (cs.take L.length ++ [.sl q 0 l.length])])[p]? = h2[p]? := fun p hp hn => by
    rw [List.getElem?_append_left (by simp; omega), List.getElem?_set_ne (Ne.symm hn), List.getElem?_append_left hp]
  have gd1 : ∀ i, i < L.length → (L ++ [l]).getD i [] = L.getD i [] := fun i hi => by
    simp only [List.getD]
    rw [List.getElem?_append_left hi]
  have gd2 : (L ++ [l]).getD L.length [] = l := by simp [List.getD]
  have hE : Ext hb ((h2 ++ [Row.own [.sl q 0 l.length]]).set r .gone ++ [Row.own (cs.take L.length ++ [.sl q 0 l.length])]) := ((((E.trans E2).pushed _).set hr1 _).pushed _)
  have hlen : ((h2 ++ [Row.own [.sl q 0 l.length]]).set r .gone ++ [Row.own (cs.take L.length ++ [.sl q 0 l.length])]).length = h2.length + 2 := by simp
  refine hK _ _ hE ⟨h2.length + 1, fun i => if i < L.length then ρ i else q, by simp, by omega, by rw [hlen]; omega, fun i hi => ?_, ⟨cs.take L.length ++ [.sl q 0 l.length], ?_, by simp; omega, fun i hi => ?_⟩, fun i hi => ?_, fun i hi => ?_, fun i j hij hj => ?_⟩
  · rw [hlen]
    by_cases hi2 : i < L.length
    · have := hρ i hi2
      simp only [hi2, if_true]
      omega
    · simp only [hi2, if_false]
      omega
  · rw [List.getElem?_append_right (by simp)]
    simp
  · by_cases hi2 : i < L.length
    · rw [List.getElem?_append_left (by simp; omega), List.getElem?_take_of_lt hi2, hoc i hi2, gd1 i hi2]
      simp [hi2]
    · have e : i = L.length := by simp at hi; omega
      subst e
      rw [gd2, List.getElem?_append_right (by simp; omega)]
      have : L.length - (cs.take L.length).length = 0 := by simp; omega
      rw [this]
      simp
  · by_cases hi2 : i < L.length
    · obtain ⟨t2, ht2⟩ := m.inner i hi2
      have hb2 := hρ i hi2
      have hne := m.ne i hi2
      refine ⟨t2, ?_⟩
      rw [gd1 i hi2, if_pos hi2, old _ (by omega) hne]
      exact E2.row ht2
    · have e : i = L.length := by simp at hi; omega
      subst e
      refine ⟨t, ?_⟩
      rw [gd2, if_neg (by omega), old _ (by omega) (by omega)]
      exact hq
  · by_cases hi2 : i < L.length
    · have := hρ i hi2
      simp only [hi2, if_true]
      omega
    · simp only [hi2, if_false]
      omega
  · have hj' : j ≤ L.length := by simp at hj; omega
    have hi2 : i < L.length := by omega
    have h1 := hρ i hi2
    by_cases hj2 : j < L.length
    · simp only [hi2, hj2, if_true]
      exact m.inj i j hij hj2
    · simp only [hi2, hj2, if_true, if_false]
      omega

/-- Nothing yet: a slice of slices without an entry. -/
theorem OwnM.none (h : Heap) : OwnM h.length (h ++ [Row.own []]).length (h ++ [Row.own []]) (.sl h.length 0 0) [] :=
  ⟨h.length, fun _ => 0, rfl, Nat.le_refl _, by simp, fun i hi => by simp at hi, ⟨[], get_new _ _, Nat.le_refl _, fun i hi => by simp at hi⟩, fun i hi => by simp at hi, fun i hi => by simp at hi, fun i j _ hj => by simp at hj⟩

theorem OwnM.widen {b e e' : Nat} {h : Heap} {x : H0} {L : List (List Int)} (H : OwnM b e h x L) (k : e ≤ e') : OwnM b e' h x L := by
  obtain ⟨r, ρ, g1, g2, g3, g4, m⟩ := H
  exact ⟨r, ρ, g1, g2, by omega, fun i hi => by have := g4 i hi; omega, m⟩

theorem HLit.row {z : Value} {y : H0} {h : Heap} {K : HV → Heap → Prop} (h1 : y.one = true) (hK : K (.s (.sl h.length 0 1)) (h ++ [.own [y]])) : HLit z 1 (some [y]) h K := ⟨[y], rfl, rfl, by omega, by simpa using h1, hK⟩
theorem Own.one {b e : Nat} {h : Heap} {x : H0} {l : List Int} (H : Own b e h x l) : x.one = true := by
  obtain ⟨r, t, rfl, _⟩ := H
  rfl

theorem HLit.two {z : Value} {v u : Int} {h : Heap} {K : HV → Heap → Prop} (hK : K (.s (.sl h.length 0 2)) (h ++ [.own [ci v, ci u]])) : HLit z 2 (some [ci v, ci u]) h K := ⟨[ci v, ci u], rfl, rfl, by omega, by simp [H0.one, Value.oneCell'], hK⟩

/-- A part of a slice of ints. -/
theorem Ints.slice {h : Heap} {x : H0} {l : List Int} (H : Ints h x l) {lo hi : Option HV} {K : HV → Prop} (a u : Nat) (hlo : lo = none ∧ a = 0 ∨ lo = some (I a)) (hhi : hi = none ∧ u = l.length ∨ hi = some (I u)) (h1 : a ≤ u) (h2 : u ≤ l.length)
    (hK : ∀ y, Ints h y ((l.take u).drop a) → K (.s y)) : HSlice h (.s x) lo hi K := by
  have e1 : lo = none ∧ a = 0 ∨ ∃ k, lo = some (.s (.pl (.int k (a : Int)))) := hlo.imp id fun e => ⟨_, e⟩
  have hlen : l.length = (l.map ci).length := by simp
  have main : ∀ n, n = l.length → hi = none ∧ u = n ∨ ∃ k, hi = some (.s (.pl (.int k (u : Int)))) := fun n hn => by subst hn; exact hhi.imp id fun e => ⟨_, e⟩
  have key : ((l.map ci).take u).drop a = ((l.take u).drop a).map ci := by simp
  unfold Ints at H
  generalize hL : l.map ci = L at H hlen key
  cases H with
  | nils b c =>
    have e : l = [] := by simpa using hL
    subst e
    refine ⟨0, a, u, rfl, e1, main 0 rfl, h1, Or.inl h2, hK _ ?_⟩
    show Shows _ _ _
    simp
    exact .nils b c
  | ro r off len cs hr hl =>
    have hll : l.length = len := by simp at hlen; omega
    refine ⟨len, a, u, rfl, e1, main len hll.symm, h1, Or.inl (by omega), hK _ ?_⟩
    show Shows _ _ _
    rw [← key]
    have := Shows.ro (h := h) r (off + a) (u - a) cs hr (by omega)
    rw [List.take_take, Nat.min_eq_left (by omega), List.drop_take, List.drop_drop]
    exact this
  | own r off len cs hr hl =>
    have hll : l.length = len := by simp at hlen; omega
    refine ⟨len, a, u, rfl, e1, main len hll.symm, h1, Or.inl (by omega), hK _ ?_⟩
    show Shows _ _ _
    rw [← key]
    have := Shows.own (h := h) r (off + a) (u - a) cs hr (by omega)
    rw [List.take_take, Nat.min_eq_left (by omega), List.drop_take, List.drop_drop]
    exact this

theorem Ints.take {h : Heap} {x : H0} {l : List Int} (H : Ints h x l) {K : HV → Prop} (u : Nat) (h2 : u ≤ l.length)
    (hK : ∀ y, Ints h y (l.take u) → K (.s y)) : HSlice h (.s x) none (some (I u)) K := H.slice 0 u (Or.inl ⟨rfl, rfl⟩) (Or.inr rfl) (by omega) h2 (by simpa using hK)

end Go.Proofs.Ytjgnnjegaedinaa.Hx
