
/-
  Contracts of the longest element, of the program and of the reference.
-/
import Derived.Test.YtecfgbjddkpkcaaKb
namespace Go.Proofs.Ytecfgbjddkpkcaa.Hx
open Go.RowKit
variable {dm : Bool}

def longestE (c : List (List Int)) : List Int := if isFinite c then longest c else []
theorem longestE_off {c : List (List Int)} (h : isFinite c = false) : longestE c = [] := by simp [longestE, h]
theorem longestE_on {c : List (List Int)} (h : isFinite c = true) : longestE c = longest c := by simp [longestE, h]
theorem nf_le (c : List (List Int)) : ∀ (f : Nat) (v : List Int), (nf c f v).length ≤ f
  | 0, v => by rw [nf_zero]; exact Nat.le_refl _
  | f + 1, v => by
    rw [nf]
    split
    · have := nf_le c f (reflW c (fd v) v)
      simp only [List.length_cons]
      omega
    · simp
theorem longestE_le (c : List (List Int)) : (longestE c).length ≤ 31 := by
  unfold longestE
  split
  · exact nf_le c 31 _
  · simp
theorem fin_parts {c : List (List Int)} (h : isFinite c = true) : Cartan c ∧ allPos c = true := by
  simp only [isFinite, Bool.and_eq_true] at h
  exact ⟨(isCartan_iff c).1 h.1, h.2⟩
def mixTo (n k : Nat) : List Int := (List.range n).map fun t => if t < k then (-1 : Int) else 1
theorem mixTo_len (n k : Nat) : (mixTo n k).length = n := by simp [mixTo]
theorem mixTo_none (n : Nat) : mixTo n 0 = List.replicate n 1 := by
  apply List.ext_getElem (by simp [mixTo])
  intro k h1 h2
  simp [mixTo]
theorem mixTo_all (c : List (List Int)) : mixTo c.length c.length = opp c := by
  apply List.ext_getElem (by simp [mixTo, opp])
  intro k h1 h2
  simp [mixTo] at h1
  simp [mixTo, opp, h1]
theorem mixTo_succ (n k : Nat) : (mixTo n k).set k (-1) = mixTo n (k + 1) := by
  apply List.ext_getElem (by simp [mixTo])
  intro t h1 h2
  simp only [mixTo, List.getElem_set, List.getElem_map, List.getElem_range]
  by_cases e : k = t
  · subst e
    simp
  · rw [if_neg e]
    by_cases hk : t < k
    · rw [if_pos hk, if_pos (by omega)]
    · rw [if_neg hk, if_neg (by omega)]
theorem mones_snoc (k : Nat) : List.replicate (k + 1) (-1 : Int) = List.replicate k (-1) ++ [-1] := List.replicate_succ'
theorem mones_len (k : Nat) : (List.replicate k (-1 : Int)).length = k := by simp
theorem opp_def (c : List (List Int)) : List.replicate c.length (-1 : Int) = opp c := rfl
theorem longest_def (c : List (List Int)) : nf c 31 (opp c) = longest c := rfl


theorem impl_longestElement (h : Heap) (x : H0) (c : List (List Int)) (hx : Rows h x c) (hf : isFinite c = true) :
    HCalls dm Try.prog 27 [.s x] h (fun r h' => ∃ y, r = .s y ∧ Fresh h h' y (longest c)) := by
  obtain ⟨hC, hp⟩ := fin_parts hf
  have h4 := hC.le
  obtain ⟨w, hw1, P, _, _, _⟩ := fin_run hC hp
  refine calls_of_hFun (m := 0) kd_ok mixed Try.func27 rfl (by kernel_rfl) rfl rfl (of_decide_eq_true rfl) ?_; unfold hFun; (conv => whnf)
  refine ⟨rfl, hx.len ?_⟩
  (conv => whnf)
  refine (impl_ones _ c.length (by omega)).mono ?_
  rintro r h1 ⟨y1, rfl, f1⟩
  obtain ⟨q, hq, O⟩ := f1.row
  have hy := f1.ints
  (conv => whnf)
  refine ⟨rfl, hy.len ?_⟩
  rw [ones_len]
  (conv => whnf)
  refine HLoop.intro [10] [11, 12, 4, 13, 14, 15, 16, 10] (by kernel_rfl) (by kernel_rfl) (fun vs h' => ∃ k : Nat, vs = [I k] ∧ k ≤ c.length ∧ But q h1 h' ∧ OwnR q h' y1 (mixTo c.length k)) (fun vs _ => c.length - natAt vs 0) ⟨0, rfl, by omega, But.refl _ _, by rw [mixTo_none]; exact O⟩ ?_
  rintro vs h' ⟨k, rfl, hk, B, O⟩
  have hml := mixTo_len c.length k
  (conv => whnf)
  refine HIf.dec (fun hlt => ?_) (fun hge => ?_)
  · obtain ⟨cs, e1, e2, e3, B2, O2⟩ := O.store (i := k) (v := -1) (by omega)
    rw [mixTo_succ] at O2
    rw [hml] at e1
    subst e1
    (conv => whnf)
    refine ⟨rfl, HIdx.sl (by omega) (by omega) ?_⟩
    (conv => whnf)
    have e0 : 0 + (k : Int).toNat = k := by omega
    rw [e0]
    refine ⟨rfl, HStore.own e2 (by omega) rfl ?_⟩
    (conv => whnf)
    refine HArith.fits (by omega) (by omega) ?_
    (conv => whnf)
    exact ⟨⟨k + 1, rfl, by omega, B.trans B2, O2⟩, by show c.length - (k + 1) < c.length - k; omega⟩
  · have e : k = c.length := by omega
    subst e
    rw [mixTo_all] at O
    have E := f1.1.but B hq
    (conv => whnf)
    refine (impl_normal _ _ c _ _ w.length (hx.ext E) O.ints hC P hw1).mono ?_
    rintro r h3 ⟨y3, rfl, f3⟩
    rw [longest_def] at f3
    have hz := Fresh.inner E f3
    (conv => whnf)
    exact ⟨_, rfl, Fresh.of hz.1 hz.2⟩

theorem impl_LongestElement (h : Heap) (x0 : H0) (a0 : List (List Int)) (hx0 : Rows h x0 a0) (s0 : a0.length ≤ 1048576 ∧ tot a0 ≤ 1048576) :
    HCalls dm Try.prog 10 [.s x0] h (fun r h' => ∃ y, r = T2 y (isFinite a0) ∧ Fresh h h' y (longestE a0)) := by
  refine calls_of_hFun (m := 0) kd_ok mixed Try.func10 rfl (by kernel_rfl) rfl rfl (of_decide_eq_true rfl) ?_; unfold hFun; (conv => whnf)
  refine (impl_IsFinite _ _ a0 hx0 (by omega)).mono ?_
  rintro r h1 ⟨rfl, E1⟩
  (conv => whnf)
  cases hf : isFinite a0
  · rw [longestE_off hf]
    refine HIf.yes ?_
    (conv => whnf)
    refine HLit.empty ?_
    (conv => whnf)
    exact ⟨_, rfl, Fresh.of (E1.trans (Ext.push _ _)) ((OwnR.push _ []).own E1.1)⟩
  · rw [longestE_on hf]
    refine HIf.no ?_
    (conv => whnf)
    refine (impl_longestElement _ _ a0 (hx0.ext E1) hf).mono ?_
    rintro r h2 ⟨y2, rfl, f2⟩
    have hz := Fresh.inner E1 f2
    (conv => whnf)
    exact ⟨_, rfl, Fresh.of hz.1 hz.2⟩

theorem spec_LongestElement (h : Heap) (x0 : H0) (a0 : List (List Int)) (hx0 : Rows h x0 a0) (s0 : a0.length ≤ 1048576 ∧ tot a0 ≤ 1048576) :
    HCalls dm Try.prog 8 [.s x0] h (fun r h' => ∃ y, r = T2 y (isFinite a0) ∧ Fresh h h' y (longestE a0)) := by
  refine calls_of_hFun (m := 0) kd_ok mixed Try.func8 rfl (by kernel_rfl) rfl rfl (of_decide_eq_true rfl) ?_; unfold hFun; (conv => whnf)
  refine (spec_IsFinite _ _ a0 hx0 (by omega)).mono ?_
  rintro r h1 ⟨rfl, E1⟩
  have hE1 := E1.1
  (conv => whnf)
  cases hf : isFinite a0
  · rw [longestE_off hf]
    refine HIf.yes ?_
    (conv => whnf)
    refine HLit.empty ?_
    (conv => whnf)
    exact ⟨_, rfl, Fresh.of (E1.trans (Ext.push _ _)) ((OwnR.push _ []).own E1.1)⟩
  obtain ⟨hC, hp⟩ := fin_parts hf
  have h4 := hC.le
  obtain ⟨w, hw1, P, _, _, _⟩ := fin_run hC hp
  rw [longestE_on hf]
  refine HIf.no ?_
  (conv => whnf)
  refine HLit.empty ?_
  (conv => whnf)
  refine HLoop.intro [5, 4] [11, 12, 13, 14, 17, 18, 19, 4, 15, 16, 5] (by kernel_rfl) (by kernel_rfl) (fun vs h' => ∃ (k : Nat) (z : H0) (r : Nat), vs = [I k, .s z] ∧ k ≤ a0.length ∧ Ext h h' ∧ h.length ≤ r ∧ OwnR r h' z (List.replicate k (-1))) (fun vs _ => a0.length - natAt vs 0) ⟨0, _, h1.length, rfl, by omega, E1.trans (Ext.push _ _), hE1, OwnR.push h1 []⟩ ?_
  rintro vs h' ⟨k, z, r, rfl, hk, E, hr, O⟩
  have hml := mones_len k
  have hx1 := hx0.ext E
  have hE := E.1
  (conv => whnf)
  refine ⟨rfl, hx1.len ?_⟩
  (conv => whnf)
  refine HIf.dec (fun hlt => ?_) (fun hge => ?_)
  · (conv => whnf)
    refine HLit.one (v := -1) ?_
    (conv => whnf)
    refine ⟨rfl, rfl, HApp.snocR O (by omega) (fun h3 r3 y3 B3 hr3 O3 => ?_)⟩
    rw [← mones_snoc] at O3
    (conv => whnf)
    refine HArith.fits (by omega) (by omega) ?_
    (conv => whnf)
    exact ⟨⟨k + 1, y3, r3, rfl, by omega, E.but B3 hr, by omega, O3⟩, by show a0.length - (k + 1) < a0.length - k; omega⟩
  · have e : k = a0.length := by omega
    subst e
    rw [opp_def] at O
    (conv => whnf)
    refine (spec_l8Form _ _ a0 _ _ w.length hx1 O.ints hC P hw1).mono ?_
    rintro r h3 ⟨y3, rfl, f3⟩
    rw [longest_def] at f3
    have hz := Fresh.inner E f3
    (conv => whnf)
    exact ⟨_, rfl, Fresh.of hz.1 hz.2⟩

end Go.Proofs.Ytecfgbjddkpkcaa.Hx
