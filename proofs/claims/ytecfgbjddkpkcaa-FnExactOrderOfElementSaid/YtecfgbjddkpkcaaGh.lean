
/-
  Contracts of reflections of weights and of the image of rho, of the program and of the reference.
-/
import Derived.Test.YtecfgbjddkpkcaaGf
import Derived.Test.YtecfgbjddkpkcaaGg
namespace Go.Proofs.Ytecfgbjddkpkcaa.Hx
open Go.RowKit
variable {dm : Bool}

def reflNew (c : List (List Int)) (i : Nat) (v : List Int) (k : Nat) : Int := w64 (v.getD k 0 - w64 (v.getD i 0 * ent c k i))
/-- The first k numbers reflected, the others not. -/
def reflTo (c : List (List Int)) (i : Nat) (v : List Int) (k : Nat) : List Int := (List.range v.length).map fun j => if j < k then reflNew c i v j else v.getD j 0
def reflW (c : List (List Int)) (i : Nat) (v : List Int) : List Int := (List.range v.length).map (reflNew c i v)

theorem reflTo_length (c : List (List Int)) (i : Nat) (v : List Int) (k : Nat) : (reflTo c i v k).length = v.length := by simp [reflTo]
theorem reflW_length (c : List (List Int)) (i : Nat) (v : List Int) : (reflW c i v).length = v.length := by simp [reflW]
theorem reflTo_none (c : List (List Int)) (i : Nat) (v : List Int) : reflTo c i v 0 = v := by
  apply List.ext_getElem (by simp [reflTo])
  intro k h1 h2
  simp [reflTo, List.getD, h2]
theorem reflTo_all (c : List (List Int)) (i : Nat) (v : List Int) : reflTo c i v v.length = reflW c i v := by
  apply List.map_congr_left
  intro j hj
  rw [if_pos (List.mem_range.1 hj)]
theorem reflTo_get (c : List (List Int)) (i : Nat) (v : List Int) (k : Nat) (h : k < v.length) : (reflTo c i v k).getD k 0 = v.getD k 0 := by
  simp [reflTo, List.getD, h]
theorem reflTo_succ (c : List (List Int)) (i : Nat) (v : List Int) (k : Nat) : (reflTo c i v k).set k (reflNew c i v k) = reflTo c i v (k + 1) := by
  apply List.ext_getElem (by simp [reflTo])
  intro j h1 h2
  simp only [reflTo, List.getElem_set, List.getElem_map, List.getElem_range]
  by_cases hj : k = j
  · subst hj
    simp
  · rw [if_neg hj]
    by_cases hk : j < k
    · rw [if_pos hk, if_pos (by omega)]
    · rw [if_neg hk, if_neg (by omega)]

def actW (c : List (List Int)) : List Int → List Int → List Int
  | [], v => v
  | i :: w, v => reflW c i.toNat (actW c w v)

theorem actW_length (c : List (List Int)) : ∀ (w v : List Int), (actW c w v).length = v.length
  | [], _ => rfl
  | i :: w, v => by rw [actW, reflW_length, actW_length c w v]

theorem actW_drop (c : List (List Int)) (w v : List Int) {k : Nat} (h : k < w.length) : actW c (w.drop k) v = reflW c (w.getD k 0).toNat (actW c (w.drop (k + 1)) v) := by
  rw [List.drop_eq_getElem_cons h, actW]
  simp [List.getD, h]

theorem actW_end (c : List (List Int)) (w v : List Int) : actW c (w.drop w.length) v = v := by rw [List.drop_length]; rfl
theorem actW_all (c : List (List Int)) (w v : List Int) : actW c (w.drop 0) v = actW c w v := by rw [List.drop_zero]

def imageOf (c : List (List Int)) (w : List Int) : List Int := actW c w (List.replicate c.length 1)
theorem imageOf_length (c : List (List Int)) (w : List Int) : (imageOf c w).length = c.length := by rw [imageOf, actW_length, List.length_replicate]

theorem ent_eq (c : List (List Int)) (k i : Nat) : (c.getD k []).getD i 0 = ent c k i := rfl
theorem reflNew_eq (c : List (List Int)) (i : Nat) (v : List Int) (k : Nat) : w64 (v.getD k 0 - w64 (v.getD i 0 * ent c k i)) = reflNew c i v k := rfl
theorem refl_snoc (c : List (List Int)) (i : Nat) (v : List Int) (k : Nat) : (List.range (k + 1)).map (reflNew c i v) = (List.range k).map (reflNew c i v) ++ [reflNew c i v k] := by rw [List.range_succ, List.map_append]; rfl
theorem refl_len (c : List (List Int)) (i : Nat) (v : List Int) (k : Nat) : ((List.range k).map (reflNew c i v)).length = k := by simp
theorem ones_snoc (k : Nat) : List.replicate (k + 1) (1 : Int) = List.replicate k 1 ++ [1] := by rw [List.replicate_succ', ]
theorem ones_len (k : Nat) : (List.replicate k (1 : Int)).length = k := by simp


theorem spec_l6Reflect (h : Heap) (x y : H0) (c : List (List Int)) (i : Nat) (v : List Int) (hx : Rows h x c) (hy : Ints h y v) (hC : Cartan c) (hi : i < c.length) (hl : v.length = c.length) :
    HCalls dm Try.prog 30 [.s x, I i, .s y] h (fun r h' => ∃ y', r = .s y' ∧ Fresh h h' y' (reflW c i v)) := by
  have h4 := hC.le
  have E0 := Ext.push h [Row.own []]
  have O0 := Own.none h
  refine calls_of_hFun (m := 0) kd_ok mixed Try.func30 rfl (by kernel_rfl) rfl rfl (of_decide_eq_true rfl) ?_; unfold hFun; (conv => whnf)
  refine HLit.empty ?_
  (conv => whnf)
  refine HLoop.intro [8, 7] [10, 11, 12, 13, 16, 17, 18, 19, 20, 21, 22, 23, 24, 25, 26, 27, 28, 29, 30, 31, 32, 33, 34, 35, 7, 14, 15, 8] (by kernel_rfl) (by kernel_rfl) (fun vs h' => ∃ (k : Nat) (z : H0), vs = [I k, .s z] ∧ k ≤ v.length ∧ Ext h h' ∧ Own h.length h'.length h' z ((List.range k).map (reflNew c i v))) (fun vs _ => v.length - natAt vs 0) ⟨0, _, rfl, by omega, E0, O0⟩ ?_
  rintro vs h' ⟨k, z, rfl, hk, E, O⟩
  have hx := hx.ext E
  have hy := hy.ext E
  (conv => whnf)
  refine ⟨rfl, hy.len ?_⟩
  (conv => whnf)
  refine HIf.dec (fun hlt => ?_) (fun hge => ?_)
  · have hrow := hC.row k (by omega)
    (conv => whnf)
    refine Or.inr (Or.inr (Or.inl (Exists.intro 19 (Exists.intro [0, 1, 2, 3, 4, 5, 6, 7, 8, 9, 10, 11, 12, 13, 14, 15, 16, 17] (Exists.intro [18, 19, 20] (And.intro (show heldOk _ _ _ _ = true by kernel_rfl) ?_)))))); (conv => whnf)
    refine ⟨rfl, Ints.idxN hy (by omega) (fun p hp => ?_)⟩
    (conv => whnf)
    refine ⟨rfl, hp.load ?_⟩
    (conv => whnf)
    refine ⟨rfl, Ints.idxN hy (by omega) (fun p1 hp1 => ?_)⟩
    (conv => whnf)
    refine ⟨rfl, hp1.load ?_⟩
    (conv => whnf)
    refine ⟨rfl, Rows.idxN hx (by omega) (fun p2 q hp2 hq => ?_)⟩
    (conv => whnf)
    refine ⟨rfl, hp2.load ?_⟩
    (conv => whnf)
    refine ⟨rfl, Ints.idxN hq (by omega) (fun p3 hp3 => ?_)⟩
    (conv => whnf)
    refine ⟨rfl, hp3.load ?_⟩
    rw [ent_eq]
    (conv => whnf)
    refine HArith.any ?_
    (conv => whnf)
    refine HArith.any ?_
    (conv => whnf)
    refine HLit.one (v := reflNew c i v k) ?_
    (conv => whnf)
    refine ⟨rfl, rfl, HApp.snoc E O (by rw [refl_len]; omega) (fun h2 y2 E2 O2 => ?_)⟩
    rw [← refl_snoc] at O2
    (conv => whnf)
    refine HArith.fits (by omega) (by omega) ?_
    (conv => whnf)
    exact ⟨⟨k + 1, y2, rfl, by omega, E2, O2⟩, by show v.length - (k + 1) < v.length - k; omega⟩
  · (conv => whnf)
    have e : k = v.length := by omega
    subst e
    exact ⟨_, rfl, Fresh.of E O⟩

theorem impl_ones (h : Heap) (n : Nat) (hn : n ≤ 1048576) : HCalls dm Try.prog 50 [I n] h (fun r h' => ∃ y, r = .s y ∧ Fresh h h' y (List.replicate n 1)) := by
  have E0 := Ext.push h [Row.own []]
  have O0 := Own.none h
  refine calls_of_hFun (m := 0) kd_ok mixed Try.func50 rfl (by kernel_rfl) rfl rfl (of_decide_eq_true rfl) ?_; unfold hFun; (conv => whnf)
  refine HLit.empty ?_
  (conv => whnf)
  refine HLoop.intro [6, 3] [7, 8, 9, 10, 3, 11, 6] (by kernel_rfl) (by kernel_rfl) (fun vs h' => ∃ (k : Nat) (z : H0), vs = [I k, .s z] ∧ k ≤ n ∧ Ext h h' ∧ Own h.length h'.length h' z (List.replicate k 1)) (fun vs _ => n - natAt vs 0) ⟨0, _, rfl, by omega, E0, O0⟩ ?_
  rintro vs h' ⟨k, z, rfl, hk, E, O⟩
  (conv => whnf)
  refine HIf.dec (fun hlt => ?_) (fun hge => ?_)
  · (conv => whnf)
    refine HLit.one ?_
    (conv => whnf)
    refine ⟨rfl, rfl, HApp.snoc E O (by rw [ones_len]; omega) (fun h2 y2 E2 O2 => ?_)⟩
    rw [← ones_snoc] at O2
    (conv => whnf)
    refine HArith.fits (by omega) (by omega) ?_
    (conv => whnf)
    exact ⟨⟨k + 1, y2, rfl, by omega, E2, O2⟩, by show n - (k + 1) < n - k; omega⟩
  · (conv => whnf)
    have e : k = n := by omega
    subst e
    exact ⟨_, rfl, Fresh.of E O⟩

end Go.Proofs.Ytecfgbjddkpkcaa.Hx
