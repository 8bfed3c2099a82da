/-
  The contracts of ReflectWeight, ActOnWeight, SimpleRootWeight and RhoOf, of the program and of the reference.
  The reference's draws of words over a matrix.
-/
import Derived.Test.YtgliajcgcbnemaaGreatDoorZ16
namespace Go.Proofs.YtgliajcgcbnemaaGreatDoor.Hx
open Go.RowKit
variable {dm : Bool}

theorem reflectWeight_off3 {c : List (List Int)} {i : Int} {v : List Int} (h : isCartan c = false ∨ v.length ≠ c.length ∨ isPoint c i = false) : reflectWeight c i v = v := by
  unfold reflectWeight
  rcases h with h | h | h <;> simp [h]
theorem reflectWeight_on3 {c : List (List Int)} {i : Int} {v : List Int} (h1 : isCartan c = true) (h2 : v.length = c.length) (h3 : isPoint c i = true) : reflectWeight c i v = reflW c i.toNat v := by simp [reflectWeight, h1, h2, h3]
theorem actOnWeight_off3 {c : List (List Int)} {w v : List Int} (h : isWord c w = false ∨ v.length ≠ c.length) : actOnWeight c w v = v := by
  unfold actOnWeight
  rcases h with h | h <;> simp [h]
theorem actOnWeight_on3 {c : List (List Int)} {w v : List Int} (h1 : isWord c w = true) (h2 : v.length = c.length) : actOnWeight c w v = actW c w v := by simp [actOnWeight, h1, h2]

/-- A simple root as a weight: a column. -/
def colTo (c : List (List Int)) (i : Int) (k : Nat) : List Int := (List.range k).map fun t => ent c t i.toNat
theorem colTo_succ (c : List (List Int)) (i : Int) (k : Nat) : colTo c i (k + 1) = colTo c i k ++ [ent c k i.toNat] := by
  unfold colTo
  rw [List.range_succ, List.map_append]
  rfl
theorem colTo_len (c : List (List Int)) (i : Int) (k : Nat) : (colTo c i k).length = k := by simp [colTo]
def rootWeight (c : List (List Int)) (i : Int) : List Int := if isCartan c && isPoint c i then colTo c i c.length else []
theorem rootWeight_off {c : List (List Int)} {i : Int} (h : isCartan c = false ∨ isPoint c i = false) : rootWeight c i = [] := by
  unfold rootWeight
  rcases h with h | h <;> simp [h]
theorem rootWeight_on {c : List (List Int)} {i : Int} (h1 : isCartan c = true) (h2 : isPoint c i = true) : rootWeight c i = colTo c i c.length := by simp [rootWeight, h1, h2]
theorem rootWeight_len (c : List (List Int)) (i : Int) : (rootWeight c i).length ≤ c.length := by
  unfold rootWeight
  split
  · rw [colTo_len]
    exact Nat.le_refl _
  · simp
def rhoOf (c : List (List Int)) : List Int := if isCartan c then List.replicate c.length 1 else []
theorem rhoOf_len (c : List (List Int)) : (rhoOf c).length ≤ c.length := by
  unfold rhoOf
  split <;> simp


theorem spec_ReflectWeight (h : Heap) (x0 : H0) (a0 : List (List Int)) (n1 : Int) (x2 : H0) (a2 : List Int) (hx0 : Rows h x0 a0) (hx2 : Ints h x2 a2) (s0 : a0.length ≤ 1048576 ∧ tot a0 ≤ 1048576) (s1 : -9223372036854775808 ≤ n1 ∧ n1 ≤ 9223372036854775807) (s2 : a2.length ≤ 1048576) :
    HCalls dm Tryz.prog 49 [.s x0, I n1, .s x2] h (fun r h' => ∃ y, r = .s y ∧ Fresh h h' y (reflectWeight a0 n1 a2)) := by
  refine calls_of_hFun (m := 0) kd_ok mixed Tryz.func49 rfl (by kernel_rfl) rfl rfl (of_decide_eq_true rfl) ?_; unfold hFun; (conv => whnf)
  refine (spec_IsCartan _ _ _ hx0 (by omega)).mono ?_
  rintro r h' ⟨rfl, rfl⟩
  (conv => whnf)
  cases hic : isCartan a0
  · (repeat (first | (refine ⟨rfl, Ints.len (by assumption) ?_⟩; conv => whnf) | (refine ⟨rfl, Rows.len (by assumption) ?_⟩; conv => whnf) | (refine ⟨rfl, HLen.sl ?_⟩; conv => whnf) | (refine ⟨rfl, At.load (by assumption) ?_⟩; conv => whnf) | (refine HIf.yes ?_; conv => whnf) | (refine HIf.no ?_; conv => whnf) | (refine HIf.isT (by assumption) ?_; conv => whnf) | (refine HIf.isF (by assumption) ?_; conv => whnf) | (refine HIf.decT (by assumption) ?_; conv => whnf) | (refine HIf.decF (by assumption) ?_; conv => whnf) | (refine HIf.beqT (by assumption) ?_; conv => whnf) | (refine HIf.beqF (by assumption) ?_; conv => whnf) | (refine HIf.bneT (by assumption) ?_; conv => whnf) | (refine HIf.bneF (by assumption) ?_; conv => whnf) | (refine ⟨rfl, Ints.idxN (by assumption) (by omega) (fun p hp => ?_)⟩; conv => whnf) | (refine ⟨rfl, Rows.idxN (by assumption) (by omega) (fun p y hp hy => ?_)⟩; conv => whnf) | (refine And.intro (show Kd.isBool _ = true from rfl) ?_; conv => whnf) | (refine ⟨rfl, Ints.idx (by assumption) (by omega) (by omega) (fun p hp => ?_)⟩; conv => whnf) | (refine ⟨rfl, Rows.idx (by assumption) (by omega) (by omega) (fun p y hp hy => ?_)⟩; conv => whnf) | (refine HArith.fits (by omega) (by omega) ?_; conv => whnf) | (refine Or.inl (And.intro (show Region.lexB _ _ = true by kernel_rfl) ?_); conv => whnf)))
    refine HLit.empty ?_
    (conv => whnf)
    refine ⟨rfl, rfl, HApp.copy hx2 (by omega) (fun h1 y1 E O => ?_)⟩
    (conv => whnf)
    rw [reflectWeight_off3 (Or.inl hic)]
    exact ⟨_, rfl, Fresh.of E O⟩
  (repeat (first | (refine ⟨rfl, Ints.len (by assumption) ?_⟩; conv => whnf) | (refine ⟨rfl, Rows.len (by assumption) ?_⟩; conv => whnf) | (refine ⟨rfl, HLen.sl ?_⟩; conv => whnf) | (refine ⟨rfl, At.load (by assumption) ?_⟩; conv => whnf) | (refine HIf.yes ?_; conv => whnf) | (refine HIf.no ?_; conv => whnf) | (refine HIf.isT (by assumption) ?_; conv => whnf) | (refine HIf.isF (by assumption) ?_; conv => whnf) | (refine HIf.decT (by assumption) ?_; conv => whnf) | (refine HIf.decF (by assumption) ?_; conv => whnf) | (refine HIf.beqT (by assumption) ?_; conv => whnf) | (refine HIf.beqF (by assumption) ?_; conv => whnf) | (refine HIf.bneT (by assumption) ?_; conv => whnf) | (refine HIf.bneF (by assumption) ?_; conv => whnf) | (refine ⟨rfl, Ints.idxN (by assumption) (by omega) (fun p hp => ?_)⟩; conv => whnf) | (refine ⟨rfl, Rows.idxN (by assumption) (by omega) (fun p y hp hy => ?_)⟩; conv => whnf) | (refine And.intro (show Kd.isBool _ = true from rfl) ?_; conv => whnf) | (refine ⟨rfl, Ints.idx (by assumption) (by omega) (by omega) (fun p hp => ?_)⟩; conv => whnf) | (refine ⟨rfl, Rows.idx (by assumption) (by omega) (by omega) (fun p y hp hy => ?_)⟩; conv => whnf) | (refine HArith.fits (by omega) (by omega) ?_; conv => whnf) | (refine Or.inl (And.intro (show Region.lexB _ _ = true by kernel_rfl) ?_); conv => whnf)))
  refine HIf.bne (fun hne => ?_) (fun heq => ?_)
  · (conv => whnf)
    (repeat (first | (refine ⟨rfl, Ints.len (by assumption) ?_⟩; conv => whnf) | (refine ⟨rfl, Rows.len (by assumption) ?_⟩; conv => whnf) | (refine ⟨rfl, HLen.sl ?_⟩; conv => whnf) | (refine ⟨rfl, At.load (by assumption) ?_⟩; conv => whnf) | (refine HIf.yes ?_; conv => whnf) | (refine HIf.no ?_; conv => whnf) | (refine HIf.isT (by assumption) ?_; conv => whnf) | (refine HIf.isF (by assumption) ?_; conv => whnf) | (refine HIf.decT (by assumption) ?_; conv => whnf) | (refine HIf.decF (by assumption) ?_; conv => whnf) | (refine HIf.beqT (by assumption) ?_; conv => whnf) | (refine HIf.beqF (by assumption) ?_; conv => whnf) | (refine HIf.bneT (by assumption) ?_; conv => whnf) | (refine HIf.bneF (by assumption) ?_; conv => whnf) | (refine ⟨rfl, Ints.idxN (by assumption) (by omega) (fun p hp => ?_)⟩; conv => whnf) | (refine ⟨rfl, Rows.idxN (by assumption) (by omega) (fun p y hp hy => ?_)⟩; conv => whnf) | (refine And.intro (show Kd.isBool _ = true from rfl) ?_; conv => whnf) | (refine ⟨rfl, Ints.idx (by assumption) (by omega) (by omega) (fun p hp => ?_)⟩; conv => whnf) | (refine ⟨rfl, Rows.idx (by assumption) (by omega) (by omega) (fun p y hp hy => ?_)⟩; conv => whnf) | (refine HArith.fits (by omega) (by omega) ?_; conv => whnf) | (refine Or.inl (And.intro (show Region.lexB _ _ = true by kernel_rfl) ?_); conv => whnf)))
    refine HLit.empty ?_
    (conv => whnf)
    refine ⟨rfl, rfl, HApp.copy hx2 (by omega) (fun h1 y1 E O => ?_)⟩
    (conv => whnf)
    rw [reflectWeight_off3 (Or.inr (Or.inl (by omega)))]
    exact ⟨_, rfl, Fresh.of E O⟩
  (conv => whnf)
  (repeat (first | (refine ⟨rfl, Ints.len (by assumption) ?_⟩; conv => whnf) | (refine ⟨rfl, Rows.len (by assumption) ?_⟩; conv => whnf) | (refine ⟨rfl, HLen.sl ?_⟩; conv => whnf) | (refine ⟨rfl, At.load (by assumption) ?_⟩; conv => whnf) | (refine HIf.yes ?_; conv => whnf) | (refine HIf.no ?_; conv => whnf) | (refine HIf.isT (by assumption) ?_; conv => whnf) | (refine HIf.isF (by assumption) ?_; conv => whnf) | (refine HIf.decT (by assumption) ?_; conv => whnf) | (refine HIf.decF (by assumption) ?_; conv => whnf) | (refine HIf.beqT (by assumption) ?_; conv => whnf) | (refine HIf.beqF (by assumption) ?_; conv => whnf) | (refine HIf.bneT (by assumption) ?_; conv => whnf) | (refine HIf.bneF (by assumption) ?_; conv => whnf) | (refine ⟨rfl, Ints.idxN (by assumption) (by omega) (fun p hp => ?_)⟩; conv => whnf) | (refine ⟨rfl, Rows.idxN (by assumption) (by omega) (fun p y hp hy => ?_)⟩; conv => whnf) | (refine And.intro (show Kd.isBool _ = true from rfl) ?_; conv => whnf) | (refine ⟨rfl, Ints.idx (by assumption) (by omega) (by omega) (fun p hp => ?_)⟩; conv => whnf) | (refine ⟨rfl, Rows.idx (by assumption) (by omega) (by omega) (fun p y hp hy => ?_)⟩; conv => whnf) | (refine HArith.fits (by omega) (by omega) ?_; conv => whnf) | (refine Or.inl (And.intro (show Region.lexB _ _ = true by kernel_rfl) ?_); conv => whnf)))
  refine (spec_l1In _ _ _ _).mono ?_
  rintro r h' ⟨rfl, rfl⟩
  rw [isPoint_l1]
  (conv => whnf)
  cases hip : isPoint a0 n1
  · (repeat (first | (refine ⟨rfl, Ints.len (by assumption) ?_⟩; conv => whnf) | (refine ⟨rfl, Rows.len (by assumption) ?_⟩; conv => whnf) | (refine ⟨rfl, HLen.sl ?_⟩; conv => whnf) | (refine ⟨rfl, At.load (by assumption) ?_⟩; conv => whnf) | (refine HIf.yes ?_; conv => whnf) | (refine HIf.no ?_; conv => whnf) | (refine HIf.isT (by assumption) ?_; conv => whnf) | (refine HIf.isF (by assumption) ?_; conv => whnf) | (refine HIf.decT (by assumption) ?_; conv => whnf) | (refine HIf.decF (by assumption) ?_; conv => whnf) | (refine HIf.beqT (by assumption) ?_; conv => whnf) | (refine HIf.beqF (by assumption) ?_; conv => whnf) | (refine HIf.bneT (by assumption) ?_; conv => whnf) | (refine HIf.bneF (by assumption) ?_; conv => whnf) | (refine ⟨rfl, Ints.idxN (by assumption) (by omega) (fun p hp => ?_)⟩; conv => whnf) | (refine ⟨rfl, Rows.idxN (by assumption) (by omega) (fun p y hp hy => ?_)⟩; conv => whnf) | (refine And.intro (show Kd.isBool _ = true from rfl) ?_; conv => whnf) | (refine ⟨rfl, Ints.idx (by assumption) (by omega) (by omega) (fun p hp => ?_)⟩; conv => whnf) | (refine ⟨rfl, Rows.idx (by assumption) (by omega) (by omega) (fun p y hp hy => ?_)⟩; conv => whnf) | (refine HArith.fits (by omega) (by omega) ?_; conv => whnf) | (refine Or.inl (And.intro (show Region.lexB _ _ = true by kernel_rfl) ?_); conv => whnf)))
    refine HLit.empty ?_
    (conv => whnf)
    refine ⟨rfl, rfl, HApp.copy hx2 (by omega) (fun h1 y1 E O => ?_)⟩
    (conv => whnf)
    rw [reflectWeight_off3 (Or.inr (Or.inr hip))]
    exact ⟨_, rfl, Fresh.of E O⟩
  have hp := point_of hip
  have hC := (isCartan_iff a0).1 hic
  rw [reflectWeight_on3 hic (by omega) hip]
  obtain ⟨k, rfl⟩ := eq_nat hp.1
  have hrow := hC.row k (by omega)
  (repeat (first | (refine ⟨rfl, Ints.len (by assumption) ?_⟩; conv => whnf) | (refine ⟨rfl, Rows.len (by assumption) ?_⟩; conv => whnf) | (refine ⟨rfl, HLen.sl ?_⟩; conv => whnf) | (refine ⟨rfl, At.load (by assumption) ?_⟩; conv => whnf) | (refine HIf.yes ?_; conv => whnf) | (refine HIf.no ?_; conv => whnf) | (refine HIf.isT (by assumption) ?_; conv => whnf) | (refine HIf.isF (by assumption) ?_; conv => whnf) | (refine HIf.decT (by assumption) ?_; conv => whnf) | (refine HIf.decF (by assumption) ?_; conv => whnf) | (refine HIf.beqT (by assumption) ?_; conv => whnf) | (refine HIf.beqF (by assumption) ?_; conv => whnf) | (refine HIf.bneT (by assumption) ?_; conv => whnf) | (refine HIf.bneF (by assumption) ?_; conv => whnf) | (refine ⟨rfl, Ints.idxN (by assumption) (by omega) (fun p hp => ?_)⟩; conv => whnf) | (refine ⟨rfl, Rows.idxN (by assumption) (by omega) (fun p y hp hy => ?_)⟩; conv => whnf) | (refine And.intro (show Kd.isBool _ = true from rfl) ?_; conv => whnf) | (refine ⟨rfl, Ints.idx (by assumption) (by omega) (by omega) (fun p hp => ?_)⟩; conv => whnf) | (refine ⟨rfl, Rows.idx (by assumption) (by omega) (by omega) (fun p y hp hy => ?_)⟩; conv => whnf) | (refine HArith.fits (by omega) (by omega) ?_; conv => whnf) | (refine Or.inl (And.intro (show Region.lexB _ _ = true by kernel_rfl) ?_); conv => whnf)))
  refine (spec_l6Reflect _ _ _ a0 k a2 hx0 hx2 hC (by omega) (by omega)).mono ?_
  rintro r h' ⟨y, rfl, hf⟩
  (conv => whnf)
  exact ⟨_, rfl, hf⟩

theorem impl_ReflectWeight (h : Heap) (x0 : H0) (a0 : List (List Int)) (n1 : Int) (x2 : H0) (a2 : List Int) (hx0 : Rows h x0 a0) (hx2 : Ints h x2 a2) (s0 : a0.length ≤ 1048576 ∧ tot a0 ≤ 1048576) (s2 : a2.length ≤ 1048576) :
    HCalls dm Tryz.prog 48 [.s x0, I n1, .s x2] h (fun r h' => ∃ y, r = .s y ∧ Fresh h h' y (reflectWeight a0 n1 a2)) := by
  refine calls_of_hFun (m := 0) kd_ok mixed Tryz.func48 rfl (by kernel_rfl) rfl rfl (of_decide_eq_true rfl) ?_; unfold hFun; (conv => whnf)
  refine HLit.empty ?_
  (conv => whnf)
  refine ⟨rfl, rfl, HApp.copy hx2 (by omega) (fun h1 y1 E O => ?_)⟩
  have hx0' := hx0.ext E
  have hx2' := hx2.ext E
  (conv => whnf)
  refine (impl_IsCartan _ _ _ hx0' (by omega)).mono ?_
  rintro r h' ⟨rfl, hh⟩
  subst h'
  cases hic : isCartan a0
  · rw [reflectWeight_off3 (Or.inl hic)]
    (conv => whnf)
    (repeat (first | (refine HIf.bneF rfl ?_; (conv => whnf)) | (refine HIf.yes ?_; (conv => whnf)) | (refine HIf.no ?_; (conv => whnf)) | (refine HIf.same ?_; (conv => whnf)) | (refine HIf.nsame ?_; (conv => whnf)) | (refine And.intro (show Kd.isBool _ = true from rfl) ?_; (conv => whnf))))
    exact ⟨_, rfl, Fresh.of E O⟩
  by_cases hl : (a2.length : Int) = (a0.length : Int)
  rotate_left
  · rw [reflectWeight_off3 (Or.inr (Or.inl (by omega)))]
    (conv => whnf)
    (repeat (first | (refine HIf.bneF rfl ?_; (conv => whnf)) | (refine HIf.yes ?_; (conv => whnf)) | (refine HIf.no ?_; (conv => whnf)) | (refine HIf.same ?_; (conv => whnf)) | (refine HIf.nsame ?_; (conv => whnf)) | (refine And.intro (show Kd.isBool _ = true from rfl) ?_; (conv => whnf))))
    refine ⟨rfl, hx2'.len ?_⟩
    (conv => whnf)
    (repeat (first | (refine HIf.bneF rfl ?_; (conv => whnf)) | (refine HIf.yes ?_; (conv => whnf)) | (refine HIf.no ?_; (conv => whnf)) | (refine HIf.same ?_; (conv => whnf)) | (refine HIf.nsame ?_; (conv => whnf)) | (refine And.intro (show Kd.isBool _ = true from rfl) ?_; (conv => whnf))))
    refine ⟨rfl, hx0'.len ?_⟩
    (conv => whnf)
    (repeat (first | (refine HIf.beqF hl ?_; (conv => whnf)) | (refine HIf.bneF rfl ?_; (conv => whnf)) | (refine HIf.yes ?_; (conv => whnf)) | (refine HIf.no ?_; (conv => whnf)) | (refine HIf.same ?_; (conv => whnf)) | (refine HIf.nsame ?_; (conv => whnf)) | (refine And.intro (show Kd.isBool _ = true from rfl) ?_; (conv => whnf))))
    exact ⟨_, rfl, Fresh.of E O⟩
  (conv => whnf)
  (repeat (first | (refine HIf.bneF rfl ?_; (conv => whnf)) | (refine HIf.yes ?_; (conv => whnf)) | (refine HIf.no ?_; (conv => whnf)) | (refine HIf.same ?_; (conv => whnf)) | (refine HIf.nsame ?_; (conv => whnf)) | (refine And.intro (show Kd.isBool _ = true from rfl) ?_; (conv => whnf))))
  refine ⟨rfl, hx2'.len ?_⟩
  (conv => whnf)
  (repeat (first | (refine HIf.bneF rfl ?_; (conv => whnf)) | (refine HIf.yes ?_; (conv => whnf)) | (refine HIf.no ?_; (conv => whnf)) | (refine HIf.same ?_; (conv => whnf)) | (refine HIf.nsame ?_; (conv => whnf)) | (refine And.intro (show Kd.isBool _ = true from rfl) ?_; (conv => whnf))))
  refine ⟨rfl, hx0'.len ?_⟩
  (conv => whnf)
  (repeat (first | (refine HIf.beqT hl ?_; (conv => whnf)) | (refine HIf.bneF rfl ?_; (conv => whnf)) | (refine HIf.yes ?_; (conv => whnf)) | (refine HIf.no ?_; (conv => whnf)) | (refine HIf.same ?_; (conv => whnf)) | (refine HIf.nsame ?_; (conv => whnf)) | (refine And.intro (show Kd.isBool _ = true from rfl) ?_; (conv => whnf))))
  refine (impl_isPoint _ _ _ _ hx0').mono ?_
  rintro r h' ⟨rfl, hh⟩
  subst h'
  cases hip : isPoint a0 n1
  · rw [reflectWeight_off3 (Or.inr (Or.inr hip))]
    (conv => whnf)
    (repeat (first | (refine HIf.beqT hl ?_; (conv => whnf)) | (refine HIf.bneF rfl ?_; (conv => whnf)) | (refine HIf.yes ?_; (conv => whnf)) | (refine HIf.no ?_; (conv => whnf)) | (refine HIf.same ?_; (conv => whnf)) | (refine HIf.nsame ?_; (conv => whnf)) | (refine And.intro (show Kd.isBool _ = true from rfl) ?_; (conv => whnf))))
    exact ⟨_, rfl, Fresh.of E O⟩
  have hp := point_of hip
  have hC := (isCartan_iff a0).1 hic
  rw [reflectWeight_on3 hic (by omega) hip]
  obtain ⟨k, rfl⟩ := eq_nat hp.1
  (conv => whnf)
  (repeat (first | (refine HIf.beqT hl ?_; (conv => whnf)) | (refine HIf.bneF rfl ?_; (conv => whnf)) | (refine HIf.yes ?_; (conv => whnf)) | (refine HIf.no ?_; (conv => whnf)) | (refine HIf.same ?_; (conv => whnf)) | (refine HIf.nsame ?_; (conv => whnf)) | (refine And.intro (show Kd.isBool _ = true from rfl) ?_; (conv => whnf))))
  refine (impl_reflected h _ _ _ a0 k a2 hx0 E O hC (by omega) (by omega)).mono ?_
  rintro r h2 ⟨rfl, E2, O2⟩
  (conv => whnf)
  exact ⟨_, rfl, Fresh.of E2 O2⟩

theorem impl_ActOnWeight (h : Heap) (x0 : H0) (a0 : List (List Int)) (x1 : H0) (a1 : List Int) (x2 : H0) (a2 : List Int) (hx0 : Rows h x0 a0) (hx1 : Ints h x1 a1) (hx2 : Ints h x2 a2) (s0 : a0.length ≤ 1048576 ∧ tot a0 ≤ 1048576) (s1 : a1.length ≤ 1048576) (s2 : a2.length ≤ 1048576) :
    HCalls dm Tryz.prog 55 [.s x0, .s x1, .s x2] h (fun r h' => ∃ y, r = .s y ∧ Fresh h h' y (actOnWeight a0 a1 a2)) := by
  refine calls_of_hFun (m := 0) kd_ok mixed Tryz.func55 rfl (by kernel_rfl) rfl rfl (of_decide_eq_true rfl) ?_; unfold hFun; (conv => whnf)
  refine (impl_IsWord _ _ _ a0 a1 hx0 hx1 (by omega) (by omega)).mono ?_
  rintro r h1 ⟨rfl, rfl⟩
  (conv => whnf)
  cases hic : isWord a0 a1
  · (repeat (first | (refine ⟨rfl, Ints.len (by assumption) ?_⟩; conv => whnf) | (refine ⟨rfl, Rows.len (by assumption) ?_⟩; conv => whnf) | (refine ⟨rfl, HLen.sl ?_⟩; conv => whnf) | (refine ⟨rfl, At.load (by assumption) ?_⟩; conv => whnf) | (refine HIf.yes ?_; conv => whnf) | (refine HIf.no ?_; conv => whnf) | (refine HIf.isT (by assumption) ?_; conv => whnf) | (refine HIf.isF (by assumption) ?_; conv => whnf) | (refine HIf.decT (by assumption) ?_; conv => whnf) | (refine HIf.decF (by assumption) ?_; conv => whnf) | (refine HIf.beqT (by assumption) ?_; conv => whnf) | (refine HIf.beqF (by assumption) ?_; conv => whnf) | (refine HIf.bneT (by assumption) ?_; conv => whnf) | (refine HIf.bneF (by assumption) ?_; conv => whnf) | (refine ⟨rfl, Ints.idxN (by assumption) (by omega) (fun p hp => ?_)⟩; conv => whnf) | (refine ⟨rfl, Rows.idxN (by assumption) (by omega) (fun p y hp hy => ?_)⟩; conv => whnf) | (refine And.intro (show Kd.isBool _ = true from rfl) ?_; conv => whnf) | (refine ⟨rfl, Ints.idx (by assumption) (by omega) (by omega) (fun p hp => ?_)⟩; conv => whnf) | (refine ⟨rfl, Rows.idx (by assumption) (by omega) (by omega) (fun p y hp hy => ?_)⟩; conv => whnf) | (refine HArith.fits (by omega) (by omega) ?_; conv => whnf) | (refine Or.inl (And.intro (show Region.lexB _ _ = true by kernel_rfl) ?_); conv => whnf)))
    refine HLit.empty ?_
    (conv => whnf)
    refine ⟨rfl, rfl, HApp.copy hx2 (by omega) (fun h1 y1 E O => ?_)⟩
    (conv => whnf)
    rw [actOnWeight_off3 (Or.inl hic)]
    exact ⟨_, rfl, Fresh.of E O⟩
  (repeat (first | (refine ⟨rfl, Ints.len (by assumption) ?_⟩; conv => whnf) | (refine ⟨rfl, Rows.len (by assumption) ?_⟩; conv => whnf) | (refine ⟨rfl, HLen.sl ?_⟩; conv => whnf) | (refine ⟨rfl, At.load (by assumption) ?_⟩; conv => whnf) | (refine HIf.yes ?_; conv => whnf) | (refine HIf.no ?_; conv => whnf) | (refine HIf.isT (by assumption) ?_; conv => whnf) | (refine HIf.isF (by assumption) ?_; conv => whnf) | (refine HIf.decT (by assumption) ?_; conv => whnf) | (refine HIf.decF (by assumption) ?_; conv => whnf) | (refine HIf.beqT (by assumption) ?_; conv => whnf) | (refine HIf.beqF (by assumption) ?_; conv => whnf) | (refine HIf.bneT (by assumption) ?_; conv => whnf) | (refine HIf.bneF (by assumption) ?_; conv => whnf) | (refine ⟨rfl, Ints.idxN (by assumption) (by omega) (fun p hp => ?_)⟩; conv => whnf) | (refine ⟨rfl, Rows.idxN (by assumption) (by omega) (fun p y hp hy => ?_)⟩; conv => whnf) | (refine And.intro (show Kd.isBool _ = true from rfl) ?_; conv => whnf) | (refine ⟨rfl, Ints.idx (by assumption) (by omega) (by omega) (fun p hp => ?_)⟩; conv => whnf) | (refine ⟨rfl, Rows.idx (by assumption) (by omega) (by omega) (fun p y hp hy => ?_)⟩; conv => whnf) | (refine HArith.fits (by omega) (by omega) ?_; conv => whnf) | (refine Or.inl (And.intro (show Region.lexB _ _ = true by kernel_rfl) ?_); conv => whnf)))
  refine HIf.bne (fun hne => ?_) (fun heq => ?_)
  · (conv => whnf)
    refine HLit.empty ?_
    (conv => whnf)
    refine ⟨rfl, rfl, HApp.copy hx2 (by omega) (fun h1 y1 E O => ?_)⟩
    (conv => whnf)
    rw [actOnWeight_off3 (Or.inr (by omega))]
    exact ⟨_, rfl, Fresh.of E O⟩
  have hW := word_cartan hic
  rw [actOnWeight_on3 hic (by omega)]
  (conv => whnf)
  refine (impl_acted _ _ a0 _ a1 _ a2 hx0 hx1 hx2 hW.1 hW.2.2 (by omega) s1).mono ?_
  rintro r h2 ⟨y, rfl, hf⟩
  (conv => whnf)
  exact ⟨_, rfl, hf⟩

theorem spec_ActOnWeight (h : Heap) (x0 : H0) (a0 : List (List Int)) (x1 : H0) (a1 : List Int) (x2 : H0) (a2 : List Int) (hx0 : Rows h x0 a0) (hx1 : Ints h x1 a1) (hx2 : Ints h x2 a2) (s0 : a0.length ≤ 1048576 ∧ tot a0 ≤ 1048576) (s1 : a1.length ≤ 1048576) (s2 : a2.length ≤ 1048576) :
    HCalls dm Tryz.prog 64 [.s x0, .s x1, .s x2] h (fun r h' => ∃ y, r = .s y ∧ Fresh h h' y (actOnWeight a0 a1 a2)) := by
  refine calls_of_hFun (m := 0) kd_ok mixed Tryz.func64 rfl (by kernel_rfl) rfl rfl (of_decide_eq_true rfl) ?_; unfold hFun; (conv => whnf)
  refine HLit.empty ?_
  (conv => whnf)
  refine ⟨rfl, rfl, HApp.copy hx2 (by omega) (fun h1 y1 E1 O1 => ?_)⟩
  have hx11 := hx1.ext E1
  (conv => whnf)
  refine ⟨rfl, hx11.len ?_⟩
  (conv => whnf)
  refine HArith.fits (by omega) (by omega) ?_
  (conv => whnf)
  refine HLoop.intro [8, 7] [15, 16, 17, 18, 19, 20, 21, 22, 23, 24, 25, 26, 27, 28, 31, 32, 33, 34, 35, 36, 37, 7, 29, 30, 8] (by kernel_rfl) (by kernel_rfl) (fun vs h' => ∃ (k : Nat) (y : H0), vs = [I ((k : Int) - 1), .s y] ∧ k ≤ a1.length ∧ (k = a1.length ∨ (isWord a0 a1 = true ∧ a2.length = a0.length)) ∧ Ext h h' ∧ Own h.length h'.length h' y (actW a0 (a1.drop k) a2)) (fun vs _ => (intAt vs 0 + 1).toNat) ⟨a1.length, _, rfl, Nat.le_refl _, Or.inl rfl, E1, by rw [actW_end]; exact O1⟩ ?_
  rintro vs h' ⟨k, y, rfl, hk, hok, E, O⟩
  have hx0 := hx0.ext E
  have hx1 := hx1.ext E
  have hx2 := hx2.ext E
  have hal := actW_length a0 (a1.drop k) a2
  have off : k = a1.length → (isWord a0 a1 = false ∨ a2.length ≠ a0.length) → Fresh h h' y (actOnWeight a0 a1 a2) := fun e ho => by
    subst e
    rw [actOnWeight_off3 ho]
    rw [actW_end] at O
    exact Fresh.of E O
  (conv => whnf)
  refine HIf.dec (fun hlt => ?_) (fun hge => ?_)
  · (conv => whnf)
    (repeat (first | (refine ⟨rfl, Ints.len (by assumption) ?_⟩; conv => whnf) | (refine ⟨rfl, Rows.len (by assumption) ?_⟩; conv => whnf) | (refine ⟨rfl, HLen.sl ?_⟩; conv => whnf) | (refine ⟨rfl, At.load (by assumption) ?_⟩; conv => whnf) | (refine HIf.yes ?_; conv => whnf) | (refine HIf.no ?_; conv => whnf) | (refine HIf.isT (by assumption) ?_; conv => whnf) | (refine HIf.isF (by assumption) ?_; conv => whnf) | (refine HIf.decT (by assumption) ?_; conv => whnf) | (refine HIf.decF (by assumption) ?_; conv => whnf) | (refine HIf.beqT (by assumption) ?_; conv => whnf) | (refine HIf.beqF (by assumption) ?_; conv => whnf) | (refine HIf.bneT (by assumption) ?_; conv => whnf) | (refine HIf.bneF (by assumption) ?_; conv => whnf) | (refine ⟨rfl, Ints.idxN (by assumption) (by omega) (fun p hp => ?_)⟩; conv => whnf) | (refine ⟨rfl, Rows.idxN (by assumption) (by omega) (fun p y hp hy => ?_)⟩; conv => whnf) | (refine And.intro (show Kd.isBool _ = true from rfl) ?_; conv => whnf) | (refine ⟨rfl, Ints.idx (by assumption) (by omega) (by omega) (fun p hp => ?_)⟩; conv => whnf) | (refine ⟨rfl, Rows.idx (by assumption) (by omega) (by omega) (fun p y hp hy => ?_)⟩; conv => whnf) | (refine HArith.fits (by omega) (by omega) ?_; conv => whnf) | (refine Or.inl (And.intro (show Region.lexB _ _ = true by kernel_rfl) ?_); conv => whnf)))
    refine (spec_IsWord _ _ _ a0 a1 hx0 hx1 (by omega) (by omega)).mono ?_
    rintro r h2 ⟨rfl, rfl⟩
    (conv => whnf)
    (repeat (first | (refine ⟨rfl, Ints.len (by assumption) ?_⟩; conv => whnf) | (refine ⟨rfl, Rows.len (by assumption) ?_⟩; conv => whnf) | (refine ⟨rfl, HLen.sl ?_⟩; conv => whnf) | (refine ⟨rfl, At.load (by assumption) ?_⟩; conv => whnf) | (refine HIf.yes ?_; conv => whnf) | (refine HIf.no ?_; conv => whnf) | (refine HIf.isT (by assumption) ?_; conv => whnf) | (refine HIf.isF (by assumption) ?_; conv => whnf) | (refine HIf.decT (by assumption) ?_; conv => whnf) | (refine HIf.decF (by assumption) ?_; conv => whnf) | (refine HIf.beqT (by assumption) ?_; conv => whnf) | (refine HIf.beqF (by assumption) ?_; conv => whnf) | (refine HIf.bneT (by assumption) ?_; conv => whnf) | (refine HIf.bneF (by assumption) ?_; conv => whnf) | (refine ⟨rfl, Ints.idxN (by assumption) (by omega) (fun p hp => ?_)⟩; conv => whnf) | (refine ⟨rfl, Rows.idxN (by assumption) (by omega) (fun p y hp hy => ?_)⟩; conv => whnf) | (refine And.intro (show Kd.isBool _ = true from rfl) ?_; conv => whnf) | (refine ⟨rfl, Ints.idx (by assumption) (by omega) (by omega) (fun p hp => ?_)⟩; conv => whnf) | (refine ⟨rfl, Rows.idx (by assumption) (by omega) (by omega) (fun p y hp hy => ?_)⟩; conv => whnf) | (refine HArith.fits (by omega) (by omega) ?_; conv => whnf) | (refine Or.inl (And.intro (show Region.lexB _ _ = true by kernel_rfl) ?_); conv => whnf)))
    cases hic : isWord a0 a1
    · (repeat (first | (refine ⟨rfl, Ints.len (by assumption) ?_⟩; conv => whnf) | (refine ⟨rfl, Rows.len (by assumption) ?_⟩; conv => whnf) | (refine ⟨rfl, HLen.sl ?_⟩; conv => whnf) | (refine ⟨rfl, At.load (by assumption) ?_⟩; conv => whnf) | (refine HIf.yes ?_; conv => whnf) | (refine HIf.no ?_; conv => whnf) | (refine HIf.isT (by assumption) ?_; conv => whnf) | (refine HIf.isF (by assumption) ?_; conv => whnf) | (refine HIf.decT (by assumption) ?_; conv => whnf) | (refine HIf.decF (by assumption) ?_; conv => whnf) | (refine HIf.beqT (by assumption) ?_; conv => whnf) | (refine HIf.beqF (by assumption) ?_; conv => whnf) | (refine HIf.bneT (by assumption) ?_; conv => whnf) | (refine HIf.bneF (by assumption) ?_; conv => whnf) | (refine ⟨rfl, Ints.idxN (by assumption) (by omega) (fun p hp => ?_)⟩; conv => whnf) | (refine ⟨rfl, Rows.idxN (by assumption) (by omega) (fun p y hp hy => ?_)⟩; conv => whnf) | (refine And.intro (show Kd.isBool _ = true from rfl) ?_; conv => whnf) | (refine ⟨rfl, Ints.idx (by assumption) (by omega) (by omega) (fun p hp => ?_)⟩; conv => whnf) | (refine ⟨rfl, Rows.idx (by assumption) (by omega) (by omega) (fun p y hp hy => ?_)⟩; conv => whnf) | (refine HArith.fits (by omega) (by omega) ?_; conv => whnf) | (refine Or.inl (And.intro (show Region.lexB _ _ = true by kernel_rfl) ?_); conv => whnf)))
      exact ⟨_, rfl, off (by rcases hok with h | h; exact h; rw [hic] at h; cases h.1) (Or.inl hic)⟩
    (repeat (first | (refine ⟨rfl, Ints.len (by assumption) ?_⟩; conv => whnf) | (refine ⟨rfl, Rows.len (by assumption) ?_⟩; conv => whnf) | (refine ⟨rfl, HLen.sl ?_⟩; conv => whnf) | (refine ⟨rfl, At.load (by assumption) ?_⟩; conv => whnf) | (refine HIf.yes ?_; conv => whnf) | (refine HIf.no ?_; conv => whnf) | (refine HIf.isT (by assumption) ?_; conv => whnf) | (refine HIf.isF (by assumption) ?_; conv => whnf) | (refine HIf.decT (by assumption) ?_; conv => whnf) | (refine HIf.decF (by assumption) ?_; conv => whnf) | (refine HIf.beqT (by assumption) ?_; conv => whnf) | (refine HIf.beqF (by assumption) ?_; conv => whnf) | (refine HIf.bneT (by assumption) ?_; conv => whnf) | (refine HIf.bneF (by assumption) ?_; conv => whnf) | (refine ⟨rfl, Ints.idxN (by assumption) (by omega) (fun p hp => ?_)⟩; conv => whnf) | (refine ⟨rfl, Rows.idxN (by assumption) (by omega) (fun p y hp hy => ?_)⟩; conv => whnf) | (refine And.intro (show Kd.isBool _ = true from rfl) ?_; conv => whnf) | (refine ⟨rfl, Ints.idx (by assumption) (by omega) (by omega) (fun p hp => ?_)⟩; conv => whnf) | (refine ⟨rfl, Rows.idx (by assumption) (by omega) (by omega) (fun p y hp hy => ?_)⟩; conv => whnf) | (refine HArith.fits (by omega) (by omega) ?_; conv => whnf) | (refine Or.inl (And.intro (show Region.lexB _ _ = true by kernel_rfl) ?_); conv => whnf)))
    refine HIf.beq (fun heq => ?_) (fun hne => ?_)
    · obtain ⟨hC, _, hw⟩ := word_cartan hic
      obtain ⟨m, rfl⟩ : ∃ m, k = m + 1 := ⟨k - 1, by omega⟩
      obtain ⟨i, hi, hil⟩ := letter hw (k := m) (by omega)
      have e1 : (((m + 1 : Nat) : Int) - 1).toNat = m := by omega
      have hrow := hC.row i hil
      have hp := hC.le
      (conv => whnf)
      refine ⟨rfl, Ints.idx hx1 (by omega) (by omega) (fun p hp => ?_)⟩
      rw [e1, hi] at hp
      (conv => whnf)
      refine ⟨rfl, hp.load ?_⟩
      (conv => whnf)
      refine (spec_l6Reflect _ _ _ a0 i _ hx0 O.ints hC (by omega) (by omega)).mono ?_
      rintro r h3 ⟨y2, rfl, hf⟩
      have hd := actW_drop a0 a1 a2 (k := m) (by omega)
      have e2 : (a1.getD m 0).toNat = i := by omega
      rw [e2] at hd
      rw [← hd] at hf
      (conv => whnf)
      refine HArith.fits (by omega) (by omega) ?_
      (conv => whnf)
      have e3 : ((m + 1 : Nat) : Int) - 1 - 1 = (m : Int) - 1 := by omega
      have hEE := E.trans hf.1
      obtain ⟨_, q, t, rfl, hq1, hq2⟩ := hf
      have := E.1
      exact ⟨⟨m, _, by rw [← e3]; rfl, by omega, Or.inr ⟨(by first | rfl | exact hic), by omega⟩, hEE, q, t, rfl, by omega, get_lt hq2, hq2⟩, by show (((m + 1 : Nat) : Int) - 1 - 1 + 1).toNat < (((m + 1 : Nat) : Int) - 1 + 1).toNat; omega⟩
    · (conv => whnf)
      exact ⟨_, rfl, off (by rcases hok with h | h; exact h; have := h.2; omega) (Or.inr (by omega))⟩
  · have e : k = 0 := by omega
    (conv => whnf)
    (repeat (first | (refine HIf.decF hge ?_; conv => whnf) | (refine HIf.no ?_; conv => whnf)))
    subst e
    have O' := O
    rw [actW_all] at O'
    rcases hok with h0 | ⟨hic, hl⟩
    · have hnil : a1 = [] := List.eq_nil_of_length_eq_zero h0.symm
      subst hnil
      have e4 : actOnWeight a0 [] a2 = a2 := by unfold actOnWeight; split <;> rfl
      rw [e4]
      exact ⟨_, rfl, Fresh.of E O'⟩
    · rw [actOnWeight_on3 hic hl]
      exact ⟨_, rfl, Fresh.of E O'⟩

theorem impl_RhoOf (h : Heap) (x0 : H0) (a0 : List (List Int)) (hx0 : Rows h x0 a0) (s0 : a0.length ≤ 1048576 ∧ tot a0 ≤ 1048576) :
    HCalls dm Tryz.prog 70 [.s x0] h (fun r h' => ∃ y, r = .s y ∧ Fresh h h' y (rhoOf a0)) := by
  refine calls_of_hFun (m := 0) kd_ok mixed Tryz.func70 rfl (by kernel_rfl) rfl rfl (of_decide_eq_true rfl) ?_; unfold hFun; (conv => whnf)
  refine (impl_IsCartan _ _ _ hx0 (by omega)).mono ?_
  rintro r h' ⟨rfl, hh⟩
  subst h'
  unfold rhoOf
  cases hic : isCartan a0
  · (conv => whnf)
    (repeat (first | (refine HIf.bneF rfl ?_; (conv => whnf)) | (refine HIf.yes ?_; (conv => whnf)) | (refine HIf.no ?_; (conv => whnf)) | (refine HIf.same ?_; (conv => whnf)) | (refine HIf.nsame ?_; (conv => whnf)) | (refine And.intro (show Kd.isBool _ = true from rfl) ?_; (conv => whnf))))
    refine HLit.empty ?_
    (conv => whnf)
    exact ⟨_, rfl, Fresh.none h rfl⟩
  · (conv => whnf)
    (repeat (first | (refine HIf.bneF rfl ?_; (conv => whnf)) | (refine HIf.yes ?_; (conv => whnf)) | (refine HIf.no ?_; (conv => whnf)) | (refine HIf.same ?_; (conv => whnf)) | (refine HIf.nsame ?_; (conv => whnf)) | (refine And.intro (show Kd.isBool _ = true from rfl) ?_; (conv => whnf))))
    refine ⟨rfl, hx0.len ?_⟩
    (conv => whnf)
    refine (impl_ones _ a0.length (by omega)).mono ?_
    rintro r h1 ⟨y1, rfl, hf⟩
    (conv => whnf)
    exact ⟨_, rfl, hf⟩

theorem spec_RhoOfA (h : Heap) (x0 : H0) (a0 : List (List Int)) (hx0 : Rows h x0 a0) (s0 : a0.length ≤ 1048576 ∧ tot a0 ≤ 1048576) :
    HCalls dm Tryz.prog 71 [.s x0] h (fun r h' => ∃ y, r = .s y ∧ Fresh h h' y (rhoOf a0)) := by
  cases hic : isCartan a0
  rotate_left
  · refine (spec_RhoOf _ _ _ hx0 hic).mono ?_
    rintro r h1 ⟨y1, rfl, hf⟩
    exact ⟨_, rfl, by unfold rhoOf; rw [if_pos hic]; exact hf⟩
  have e : rhoOf a0 = [] := by simp [rhoOf, hic]
  rw [e]
  have E0 := Ext.push h [Row.own []]
  have O0 := Own.none h
  refine calls_of_hFun (m := 0) kd_ok mixed Tryz.func71 rfl (by kernel_rfl) rfl rfl (of_decide_eq_true rfl) ?_; unfold hFun; (conv => whnf)
  refine HLit.empty ?_
  generalize h ++ [Row.own []] = h0 at E0 O0 ⊢
  have hx0' := hx0.ext E0
  (conv => whnf)
  refine HLoop.intro [4, 3] [6, 7, 8, 9, 10, 11, 12, 13, 16, 17, 18, 3, 14, 15, 4] (by kernel_rfl) (by kernel_rfl) (fun vs h' => vs = [I 0, .s (.sl h.length 0 0)] ∧ h' = h0) (fun vs _ => 0) ⟨rfl, rfl⟩ ?_
  rintro vs h' ⟨rfl, hh⟩
  subst h'
  (conv => whnf)
  refine ⟨rfl, hx0'.len ?_⟩
  (conv => whnf)
  by_cases c1 : (0 : Int) < (a0.length : Int)
  · (repeat (refine HIf.decT c1 ?_; (conv => whnf)))
    refine (spec_IsCartan _ _ _ hx0' (by omega)).mono ?_
    rintro r h1 ⟨rfl, hh⟩
    subst h1
    rw [hic]
    (conv => whnf)
    (repeat (first | (refine HIf.decT c1 ?_; (conv => whnf)) | (refine HIf.bneF rfl ?_; (conv => whnf)) | (refine HIf.yes ?_; (conv => whnf)) | (refine HIf.no ?_; (conv => whnf)) | (refine HIf.same ?_; (conv => whnf)) | (refine HIf.nsame ?_; (conv => whnf)) | (refine And.intro (show Kd.isBool _ = true from rfl) ?_; (conv => whnf))))
    exact ⟨_, rfl, Fresh.of E0 O0⟩
  · (repeat (refine HIf.decF c1 ?_; (conv => whnf)))
    (repeat (first | (refine HIf.bneF rfl ?_; (conv => whnf)) | (refine HIf.yes ?_; (conv => whnf)) | (refine HIf.no ?_; (conv => whnf)) | (refine HIf.same ?_; (conv => whnf)) | (refine HIf.nsame ?_; (conv => whnf)) | (refine And.intro (show Kd.isBool _ = true from rfl) ?_; (conv => whnf))))
    exact ⟨_, rfl, Fresh.of E0 O0⟩

theorem impl_SimpleRootWeight (h : Heap) (x0 : H0) (a0 : List (List Int)) (n : Int) (hx0 : Rows h x0 a0) (s0 : a0.length ≤ 1048576 ∧ tot a0 ≤ 1048576) :
    HCalls dm Tryz.prog 68 [.s x0, I n] h (fun r h' => ∃ y, r = .s y ∧ Fresh h h' y (rootWeight a0 n)) := by
  have col : isCartan a0 = true → isPoint a0 n = true → HCalls dm Tryz.prog 128 [.s x0, I n] h (fun r h' => ∃ y, r = .s y ∧ Fresh h h' y (colTo a0 n a0.length)) := by
    intro hic hip
    have hC := (isCartan_iff a0).1 hic
    have hp := point_of hip
    have E0 := Ext.push h [Row.own []]
    have O0 := Own.none h
    refine calls_of_hFun (m := 0) kd_ok mixed Tryz.func128 rfl (by kernel_rfl) rfl rfl (of_decide_eq_true rfl) ?_; unfold hFun; (conv => whnf)
    refine HLit.empty ?_
    (conv => whnf)
    refine ⟨rfl, (hx0.ext E0).len ?_⟩
    (conv => whnf)
    refine HLoop.intro [10, 5] [11, 12, 6, 13, 14, 15, 16, 17, 18, 19, 20, 21, 22, 5, 23, 10] (by kernel_rfl) (by kernel_rfl) (fun vs h' => ∃ (k : Nat) (z : H0), vs = [I k, .s z] ∧ k ≤ a0.length ∧ Ext h h' ∧ Own h.length h'.length h' z (colTo a0 n k)) (fun vs _ => a0.length - natAt vs 0) ⟨0, _, rfl, by omega, E0, O0⟩ ?_
    rintro vs h' ⟨k, z, rfl, hk, E, O⟩
    have hx0 := hx0.ext E
    have hcl := colTo_len a0 n k
    (conv => whnf)
    refine HIf.dec (fun hlt => ?_) (fun hge => ?_)
    · have hrow := hC.row k (by omega)
      (conv => whnf)
      refine ⟨rfl, Rows.idxN hx0 (by omega) (fun p y hp hy => ?_)⟩
      (conv => whnf)
      refine ⟨rfl, hp.load ?_⟩
      (conv => whnf)
      refine ⟨rfl, Ints.idx hy (by omega) (by omega) (fun p hp => ?_)⟩
      rw [ent_eq] at hp
      (conv => whnf)
      refine ⟨rfl, hp.load ?_⟩
      (conv => whnf)
      refine HLit.one ?_
      (conv => whnf)
      refine ⟨rfl, rfl, HApp.snoc E O (by omega) (fun h2 y2 E2 O2 => ?_)⟩
      rw [← colTo_succ] at O2
      (conv => whnf)
      refine HArith.fits (by omega) (by omega) ?_
      (conv => whnf)
      exact ⟨⟨k + 1, y2, rfl, by omega, E2, O2⟩, by show a0.length - (k + 1) < a0.length - k; omega⟩
    · have e : k = a0.length := by omega
      subst e
      (conv => whnf)
      exact ⟨_, rfl, Fresh.of E O⟩
  refine calls_of_hFun (m := 0) kd_ok mixed Tryz.func68 rfl (by kernel_rfl) rfl rfl (of_decide_eq_true rfl) ?_; unfold hFun; (conv => whnf)
  refine (impl_IsCartan _ _ _ hx0 (by omega)).mono ?_
  rintro r h' ⟨rfl, hh⟩
  subst h'
  cases hic : isCartan a0
  · rw [rootWeight_off (Or.inl hic)]
    (conv => whnf)
    (repeat (first | (refine HIf.bneF rfl ?_; (conv => whnf)) | (refine HIf.yes ?_; (conv => whnf)) | (refine HIf.no ?_; (conv => whnf)) | (refine HIf.same ?_; (conv => whnf)) | (refine HIf.nsame ?_; (conv => whnf)) | (refine And.intro (show Kd.isBool _ = true from rfl) ?_; (conv => whnf))))
    refine HLit.empty ?_
    (conv => whnf)
    exact ⟨_, rfl, Fresh.none h rfl⟩
  (conv => whnf)
  (repeat (first | (refine HIf.bneF rfl ?_; (conv => whnf)) | (refine HIf.yes ?_; (conv => whnf)) | (refine HIf.no ?_; (conv => whnf)) | (refine HIf.same ?_; (conv => whnf)) | (refine HIf.nsame ?_; (conv => whnf)) | (refine And.intro (show Kd.isBool _ = true from rfl) ?_; (conv => whnf))))
  refine (impl_isPoint _ _ _ _ hx0).mono ?_
  rintro r h' ⟨rfl, hh⟩
  subst h'
  cases hip : isPoint a0 n
  · rw [rootWeight_off (Or.inr hip)]
    (conv => whnf)
    (repeat (first | (refine HIf.bneF rfl ?_; (conv => whnf)) | (refine HIf.yes ?_; (conv => whnf)) | (refine HIf.no ?_; (conv => whnf)) | (refine HIf.same ?_; (conv => whnf)) | (refine HIf.nsame ?_; (conv => whnf)) | (refine And.intro (show Kd.isBool _ = true from rfl) ?_; (conv => whnf))))
    refine HLit.empty ?_
    (conv => whnf)
    exact ⟨_, rfl, Fresh.none h rfl⟩
  rw [rootWeight_on hic hip]
  (conv => whnf)
  (repeat (first | (refine HIf.bneF rfl ?_; (conv => whnf)) | (refine HIf.yes ?_; (conv => whnf)) | (refine HIf.no ?_; (conv => whnf)) | (refine HIf.same ?_; (conv => whnf)) | (refine HIf.nsame ?_; (conv => whnf)) | (refine And.intro (show Kd.isBool _ = true from rfl) ?_; (conv => whnf))))
  refine (col hic hip).mono ?_
  rintro r h1 ⟨y1, rfl, hf⟩
  (conv => whnf)
  exact ⟨_, rfl, hf⟩

theorem spec_SimpleRootWeight (h : Heap) (x0 : H0) (a0 : List (List Int)) (n : Int) (hx0 : Rows h x0 a0) (s0 : a0.length ≤ 1048576 ∧ tot a0 ≤ 1048576) :
    HCalls dm Tryz.prog 69 [.s x0, I n] h (fun r h' => ∃ y, r = .s y ∧ Fresh h h' y (rootWeight a0 n)) := by
  have E0 := Ext.push h [Row.own []]
  have O0 := Own.none h
  refine calls_of_hFun (m := 0) kd_ok mixed Tryz.func69 rfl (by kernel_rfl) rfl rfl (of_decide_eq_true rfl) ?_; unfold hFun; (conv => whnf)
  refine HLit.empty ?_
  (conv => whnf)
  refine HLoop.intro [6, 5] [8, 9, 10, 11, 12, 13, 14, 15, 16, 17, 18, 19, 20, 21, 22, 25, 26, 27, 28, 29, 30, 31, 32, 33, 34, 5, 23, 24, 6] (by kernel_rfl) (by kernel_rfl) (fun vs h' => ∃ (k : Nat) (z : H0), vs = [I k, .s z] ∧ k ≤ a0.length ∧ (k = 0 ∨ isCartan a0 = true ∧ isPoint a0 n = true) ∧ Ext h h' ∧ Own h.length h'.length h' z (colTo a0 n k)) (fun vs _ => a0.length - natAt vs 0) ⟨0, _, rfl, by omega, Or.inl rfl, E0, O0⟩ ?_
  rintro vs h' ⟨k, z, rfl, hk, hok, E, O⟩
  have hx0 := hx0.ext E
  have hcl := colTo_len a0 n k
  have off : (isCartan a0 = false ∨ isPoint a0 n = false) → Fresh h h' z (rootWeight a0 n) := fun ho => by
    have e : k = 0 := by
      rcases hok with h | h
      · exact h
      · rcases ho with ho | ho
        · rw [h.1] at ho; cases ho
        · rw [h.2] at ho; cases ho
    subst e
    rw [rootWeight_off ho]
    exact Fresh.of E O
  (conv => whnf)
  refine ⟨rfl, hx0.len ?_⟩
  (conv => whnf)
  by_cases c1 : (k : Int) < (a0.length : Int)
  rotate_left
  · (repeat (refine HIf.decF c1 ?_; (conv => whnf)))
    (repeat (first | (refine HIf.bneF rfl ?_; (conv => whnf)) | (refine HIf.yes ?_; (conv => whnf)) | (refine HIf.no ?_; (conv => whnf)) | (refine HIf.same ?_; (conv => whnf)) | (refine HIf.nsame ?_; (conv => whnf)) | (refine And.intro (show Kd.isBool _ = true from rfl) ?_; (conv => whnf))))
    have e : k = a0.length := by omega
    refine ⟨_, rfl, ?_⟩
    cases hic : isCartan a0
    · exact off (Or.inl hic)
    cases hip : isPoint a0 n
    · exact off (Or.inr hip)
    rw [rootWeight_on hic hip]
    subst e
    exact Fresh.of E O
  refine HIf.decT c1 ?_
  (conv => whnf)
  refine HIf.decT c1 ?_
  (conv => whnf)
  refine (spec_IsCartan _ _ _ hx0 (by omega)).mono ?_
  rintro r h1 ⟨rfl, hh⟩
  subst h1
  cases hic : isCartan a0
  · (conv => whnf)
    (repeat (first | (refine HIf.decT c1 ?_; (conv => whnf)) | (refine HIf.bneF rfl ?_; (conv => whnf)) | (refine HIf.yes ?_; (conv => whnf)) | (refine HIf.no ?_; (conv => whnf)) | (refine HIf.same ?_; (conv => whnf)) | (refine HIf.nsame ?_; (conv => whnf)) | (refine And.intro (show Kd.isBool _ = true from rfl) ?_; (conv => whnf))))
    exact ⟨_, rfl, off (Or.inl hic)⟩
  (conv => whnf)
  (repeat (first | (refine HIf.decT c1 ?_; (conv => whnf)) | (refine HIf.bneF rfl ?_; (conv => whnf)) | (refine HIf.yes ?_; (conv => whnf)) | (refine HIf.no ?_; (conv => whnf)) | (refine HIf.same ?_; (conv => whnf)) | (refine HIf.nsame ?_; (conv => whnf)) | (refine And.intro (show Kd.isBool _ = true from rfl) ?_; (conv => whnf))))
  refine ⟨rfl, hx0.len ?_⟩
  (conv => whnf)
  (repeat (first | (refine HIf.decT c1 ?_; (conv => whnf)) | (refine HIf.bneF rfl ?_; (conv => whnf)) | (refine HIf.yes ?_; (conv => whnf)) | (refine HIf.no ?_; (conv => whnf)) | (refine HIf.same ?_; (conv => whnf)) | (refine HIf.nsame ?_; (conv => whnf)) | (refine And.intro (show Kd.isBool _ = true from rfl) ?_; (conv => whnf))))
  refine HArith.fits (by omega) (by omega) ?_
  (conv => whnf)
  (repeat (first | (refine HIf.decT c1 ?_; (conv => whnf)) | (refine HIf.bneF rfl ?_; (conv => whnf)) | (refine HIf.yes ?_; (conv => whnf)) | (refine HIf.no ?_; (conv => whnf)) | (refine HIf.same ?_; (conv => whnf)) | (refine HIf.nsame ?_; (conv => whnf)) | (refine And.intro (show Kd.isBool _ = true from rfl) ?_; (conv => whnf))))
  refine (spec_l1In _ _ _ _).mono ?_
  rintro r h1 ⟨rfl, hh⟩
  subst h1
  rw [isPoint_l1]
  cases hip : isPoint a0 n
  · (conv => whnf)
    (repeat (first | (refine HIf.decT c1 ?_; (conv => whnf)) | (refine HIf.bneF rfl ?_; (conv => whnf)) | (refine HIf.yes ?_; (conv => whnf)) | (refine HIf.no ?_; (conv => whnf)) | (refine HIf.same ?_; (conv => whnf)) | (refine HIf.nsame ?_; (conv => whnf)) | (refine And.intro (show Kd.isBool _ = true from rfl) ?_; (conv => whnf))))
    exact ⟨_, rfl, off (Or.inr hip)⟩
  have hC := (isCartan_iff a0).1 hic
  have hp := point_of hip
  have hrow := hC.row k (by omega)
  (conv => whnf)
  (repeat (first | (refine HIf.decT c1 ?_; (conv => whnf)) | (refine HIf.bneF rfl ?_; (conv => whnf)) | (refine HIf.yes ?_; (conv => whnf)) | (refine HIf.no ?_; (conv => whnf)) | (refine HIf.same ?_; (conv => whnf)) | (refine HIf.nsame ?_; (conv => whnf)) | (refine And.intro (show Kd.isBool _ = true from rfl) ?_; (conv => whnf))))
  refine ⟨rfl, Rows.idxN hx0 (by omega) (fun p y hp hy => ?_)⟩
  (conv => whnf)
  refine ⟨rfl, hp.load ?_⟩
  (conv => whnf)
  refine ⟨rfl, Ints.idx hy (by omega) (by omega) (fun p hp => ?_)⟩
  rw [ent_eq] at hp
  (conv => whnf)
  refine ⟨rfl, hp.load ?_⟩
  (conv => whnf)
  refine HLit.one ?_
  (conv => whnf)
  refine ⟨rfl, rfl, HApp.snoc E O (by omega) (fun h2 y2 E2 O2 => ?_)⟩
  rw [← colTo_succ] at O2
  (conv => whnf)
  refine HArith.fits (by omega) (by omega) ?_
  (conv => whnf)
  exact ⟨⟨k + 1, y2, rfl, by omega, Or.inr ⟨(by first | rfl | exact hic), (by first | rfl | exact hip)⟩, E2, O2⟩, by show a0.length - (k + 1) < a0.length - k; omega⟩

end Go.Proofs.YtgliajcgcbnemaaGreatDoor.Hx

namespace Go.Proofs.YtgliajcgcbnemaaGreatDoor.Hx
open Go.RowKit
variable {dm : Bool}

/-- A matrix drawn: one to five rows of at most four numbers. -/
structure Small (L : List (List Int)) : Prop where
  pos : 1 ≤ L.length
  le : L.length ≤ 5
  row : ∀ k, k < L.length → (L.getD k []).length ≤ 4

theorem Shape.small {L : List (List Int)} (h : Shape L) : Small L := ⟨h.pos, by have := h.le; omega, fun k hk => by rw [h.row k hk]; exact h.le⟩
theorem Small.tot {L : List (List Int)} (h : Small L) : tot L ≤ 20 := by
  have h1 := tot_rows (n := 4) (L := L) h.row
  have := h.le
  omega
theorem Small.set {L : List (List Int)} (h : Small L) {i : Nat} {l : List Int} (hl : l.length ≤ 4) : Small (L.set i l) := by
  refine ⟨by simpa using h.pos, by simpa using h.le, fun k hk => ?_⟩
  have hk' : k < L.length := by simpa using hk
  by_cases e : k = i
  · subst e
    have : (L.set k l).getD k [] = l := by simp [List.getD, hk']
    rw [this]
    exact hl
  · have : (L.set i l).getD k [] = L.getD k [] := by simp [List.getD, List.getElem?_set_ne (Ne.symm e)]
    rw [this]
    exact h.row k hk'
theorem Small.snoc {L : List (List Int)} (h : Shape L) {l : List Int} (hl : l.length ≤ 4) : Small (L ++ [l]) := by
  refine ⟨by simp, by have := h.le; simp; omega, fun k hk => ?_⟩
  have h4 := h.le
  by_cases e : k < L.length
  · have : (L ++ [l]).getD k [] = L.getD k [] := by simp only [List.getD]; rw [List.getElem?_append_left e]
    rw [this, h.row k e]
    exact h4
  · have e2 : k = L.length := by simp at hk; omega
    subst e2
    have : (L ++ [l]).getD L.length [] = l := by simp [List.getD]
    rw [this]
    exact hl
theorem set_getD (L : List (List Int)) (i : Nat) : L.set i (L.getD i []) = L := by
  by_cases h : i < L.length
  · have : L.getD i [] = L[i] := by simp [List.getD, h]
    rw [this, List.set_getElem_self]
  · exact List.set_eq_of_length_le (by omega)

theorem OwnR.dropF {r : Nat} {h : Heap} {x : H0} {l : List Int} (O : OwnR r h x l) (a : Nat) (ha : a ≤ l.length) {K : HV → Prop} (hK : Ints h (.sl r a (l.length - a)) (l.drop a) → K (.s (.sl r a (l.length - a)))) : HSlice h (.s x) (some (I a)) none K := by
  obtain ⟨t, rfl, hr⟩ := O
  refine ⟨l.length, a, l.length, rfl, Or.inr ⟨.i64, rfl⟩, Or.inl ⟨rfl, rfl⟩, ha, Or.inl (Nat.le_refl _), ?_⟩
  show K (.s (.sl r (0 + a) (l.length - a)))
  rw [Nat.zero_add]
  apply hK
  have := Shows.own r a (l.length - a) _ hr (by simp; omega)
  have e : ((l.map ci ++ t).drop a).take (l.length - a) = (l.drop a).map ci := by
    rw [List.drop_append_of_le_length (by simpa using ha), List.take_append_of_le_length (by simp), List.take_of_length_le (by simp), List.map_drop]
  rw [e] at this
  exact this

theorem Ext.take (h : Heap) (n : Nat) : Ext (h.take n) h := ⟨by simp; omega, fun r hr => by simp at hr; rw [List.getElem?_take_of_lt (by omega)]⟩


set_option maxRecDepth 10000 in
theorem spec_l2Any (h : Heap) (r : Nat) (x : H0) (C : Cur r h x) : HCalls dm Tryz.prog 144 [.s x] h (fun v h' => ∃ y L, v = .s y ∧ KeepR r h h' ∧ Cur r h' x ∧ RowsN (fun q => q < h.length) h' y L ∧ Small L) := by
  have hr := C.lt
  refine calls_of_hFun (m := 0) kd_ok mixed Tryz.func144 rfl (by kernel_rfl) rfl rfl (of_decide_eq_true rfl) ?_; unfold hFun; (conv => whnf)
  refine (spec_l2Drawn _ r _ C).mono ?_
  rintro v h1 ⟨y, L, rfl, K1, C1, O1, S⟩
  have p1 := S.pos
  have p2 := S.le
  (conv => whnf)
  refine (spec_l1Once _ r _ 12 C1 (by omega)).mono ?_
  rintro v h2 ⟨b, rfl, K2, C2⟩
  have O2 := (O1.keep K2 (fun q g1 g2 e => by omega)).widen K2.1
  replace K2 := K1.then K2
  (conv => whnf)
  refine HIf.split (fun hb => ?_) (fun hb => ?_)
  rotate_left
  · (conv => whnf)
    exact ⟨_, _, rfl, K2, C2, O2.rowsN (fun q g1 g2 e => by omega), S.small⟩
  (conv => whnf)
  refine ⟨rfl, O2.rows.len ?_⟩
  (conv => whnf)
  refine (spec_l1Below _ r _ _ C2 (by omega)).mono ?_
  rintro v h3 ⟨m, rfl, m0, m1, _, K3, C3⟩
  obtain ⟨i, rfl⟩ : ∃ i : Nat, m = i := ⟨m.toNat, by omega⟩
  have O3 := (O2.keep K3 (fun q g1 g2 e => by omega)).widen K3.1
  replace K3 := K2.then K3
  have hi : i < L.length := by have := m1 (by omega); omega
  have hrow := S.row i hi
  obtain ⟨r0, ρ, rfl, g1, g2, g3, M3⟩ := O3
  (conv => whnf)
  refine HLit.empty ?_
  have E4 := Ext.push h3 [Row.own []]
  have OE : OwnR h3.length (h3 ++ [Row.own []]) (.sl h3.length 0 0) [] := OwnR.push h3 []
  have n4 : (h3 ++ [Row.own []]).length = h3.length + 1 := by simp
  have n3 := K3.1
  generalize h3 ++ [Row.own []] = h4 at E4 OE n4 ⊢
  have M4 := M3.ext E4
  have C4 := C3.ext E4
  have K4 := K3.ext E4
  (conv => whnf)
  refine ⟨rfl, M4.ptr hi ?_⟩
  (conv => whnf)
  refine ⟨rfl, (M4.at hi).load ?_⟩
  (conv => whnf)
  refine ⟨rfl, rfl, HApp.moreR OE (M4.inner' hi).ints (by rw [List.length_nil]; omega) (fun h5 r5 y5 B5 hr5 O5 => ?_)⟩
  rw [List.nil_append] at O5
  have M5 := M4.keep (F := fun q => q = h3.length) B5 (by omega) (fun k hk => by have := g3 k hk; omega)
  have C5 := C4.keep (F := fun q => q = h3.length) B5 (fun q e => by omega)
  have K5 : KeepR r h h5 := K4.trans (G := fun q => q = h3.length) B5 (fun q hq e => by omega)
  have n5 := B5.1
  (conv => whnf)
  refine ⟨rfl, M5.ptr hi ?_⟩
  (conv => whnf)
  refine ⟨rfl, M5.putRow hi O5 (by omega) (fun k hk => by have := g3 k hk; omega) (fun h6 n6 k6 M6 => ?_)⟩
  rw [set_getD] at M6
  have C6 := C5.keep k6 (fun q e => by omega)
  have K6 : KeepR r h h6 := K5.trans k6 (fun q hq e => by omega)
  have g6 : ∀ k, k < L.length → h.length ≤ (fun k => if k = i then r5 else ρ k) k := fun k hk => by
    show h.length ≤ (if k = i then r5 else ρ k)
    have := g3 k hk
    split <;> omega
  generalize (fun k => if k = i then r5 else ρ k) = ρ' at M6 g6
  clear M5 M4 M3 C5 C4 C3 K5 K4
  (conv => whnf)
  refine (spec_l1Below _ r _ 3 C6 (by omega)).mono ?_
  rintro v h7 ⟨m, rfl, m2, m3, _, K7, C7⟩
  have M7 := M6.keep K7 (by omega) (fun k hk => by have := g6 k hk; omega)
  replace K7 := K6.then K7
  have n7 := K7.1
  (conv => whnf)
  refine HIf.beq (fun h0 => ?_) (fun h0 => ?_)
  · (conv => whnf)
    refine Or.inr (Or.inr (Or.inr (Exists.intro [0, 1, 2, 4] (Exists.intro (Tr.two 3 (Tr.one 5 (Tr.one 6 (Tr.one 7 (Tr.one 8 Tr.done)))) 5 (Tr.two 3 (Tr.one 6 (Tr.one 7 (Tr.one 8 Tr.done))) 6 (Tr.one 3 (Tr.one 7 (Tr.one 8 Tr.done))))) (And.intro (show treeAll _ _ _ = true by kernel_rfl) ?_)))))
    (conv => whnf)
    refine ⟨rfl, M7.ptr hi ?_⟩
    (conv => whnf)
    have E8 := Ext.push h7 [Row.own (List.map ci [-4, 1, 0, 2])]
    have n8 : (h7 ++ [Row.own (List.map ci [-4, 1, 0, 2])]).length = h7.length + 1 := by simp
    have IN : IntsN (fun q => q = r) (h7 ++ [Row.own (List.map ci [-4, 1, 0, 2])]) (.sl h7.length 0 4) [-4, 1, 0, 2] := ⟨(OwnR.push h7 [-4, 1, 0, 2]).ints, fun q o n e g => by cases e; have g : h7.length = r := g; omega⟩
    have M8 := M7.ext E8
    have C8 := C7.ext E8
    have K8 := K7.ext E8
    refine ⟨?_, ?_⟩
    · refine ⟨rfl, (M7.at hi).load ?_⟩
      (conv => whnf)
      refine HLit.of (xs := List.map ci [-4, 1, 0, 2]) rfl (ci_one _) (by decide) ?_
      (conv => whnf)
      refine (spec_l1PickInt _ r _ _ _ C8 IN (by decide) (by decide)).mono ?_
      rintro v h9 ⟨v9, rfl, _, K9, C9⟩
      have M9 := M8.keep K9 (by omega) (fun k hk => by have := g6 k hk; omega)
      replace K9 := K8.then K9
      (conv => whnf)
      refine ⟨rfl, (M9.inner' hi).idx (by omega) (by omega) ?_⟩
      (conv => whnf)
      refine ⟨rfl, M9.put hi (by omega) (fun h10 n10 k10 M10 => ?_)⟩
      have gi := g6 i hi
      have R10 := (M10.own g1 (fun k hk => g6 k (by rw [setM_length] at hk; exact hk))).rowsN (F := fun q => q < h.length) (fun q g1 g2 e => by omega)
      rw [setM_length] at R10
      (conv => whnf)
      exact ⟨_, _, rfl, K9.trans k10 (fun q hq e => by omega), C9.keep k10 (fun q e => by omega), R10, S.small.set (by rw [List.length_set]; omega)⟩
    · refine HLit.of (xs := List.map ci [-4, 1, 0, 2]) rfl (ci_one _) (by decide) ?_
      (conv => whnf)
      refine ⟨?_, ?_⟩
      · refine ⟨rfl, (M8.at hi).load ?_⟩
        (conv => whnf)
        refine (spec_l1PickInt _ r _ _ _ C8 IN (by decide) (by decide)).mono ?_
        rintro v h9 ⟨v9, rfl, _, K9, C9⟩
        have M9 := M8.keep K9 (by omega) (fun k hk => by have := g6 k hk; omega)
        replace K9 := K8.then K9
        (conv => whnf)
        refine ⟨rfl, (M9.inner' hi).idx (by omega) (by omega) ?_⟩
        (conv => whnf)
        refine ⟨rfl, M9.put hi (by omega) (fun h10 n10 k10 M10 => ?_)⟩
        have gi := g6 i hi
        have R10 := (M10.own g1 (fun k hk => g6 k (by rw [setM_length] at hk; exact hk))).rowsN (F := fun q => q < h.length) (fun q g1 g2 e => by omega)
        rw [setM_length] at R10
        (conv => whnf)
        exact ⟨_, _, rfl, K9.trans k10 (fun q hq e => by omega), C9.keep k10 (fun q e => by omega), R10, S.small.set (by rw [List.length_set]; omega)⟩
      · refine (spec_l1PickInt _ r _ _ _ C8 IN (by decide) (by decide)).mono ?_
        rintro v h9 ⟨v9, rfl, _, K9, C9⟩
        have M9 := M8.keep K9 (by omega) (fun k hk => by have := g6 k hk; omega)
        replace K9 := K8.then K9
        (conv => whnf)
        refine ⟨rfl, (M9.at hi).load ?_⟩
        (conv => whnf)
        refine ⟨rfl, (M9.inner' hi).idx (by omega) (by omega) ?_⟩
        (conv => whnf)
        refine ⟨rfl, M9.put hi (by omega) (fun h10 n10 k10 M10 => ?_)⟩
        have gi := g6 i hi
        have R10 := (M10.own g1 (fun k hk => g6 k (by rw [setM_length] at hk; exact hk))).rowsN (F := fun q => q < h.length) (fun q g1 g2 e => by omega)
        rw [setM_length] at R10
        (conv => whnf)
        exact ⟨_, _, rfl, K9.trans k10 (fun q hq e => by omega), C9.keep k10 (fun q e => by omega), R10, S.small.set (by rw [List.length_set]; omega)⟩
  · (conv => whnf)
    refine HIf.beq (fun h1' => ?_) (fun h1' => ?_)
    · (conv => whnf)
      refine ⟨rfl, M7.ptr hi ?_⟩
      (conv => whnf)
      refine ⟨rfl, (M7.at hi).load ?_⟩
      (conv => whnf)
      refine ⟨rfl, (M7.inner' hi).dropF 1 (by omega) (fun hd => ?_)⟩
      (conv => whnf)
      refine ⟨rfl, M7.ptr hi ?_⟩
      (conv => whnf)
      refine ⟨rfl, M7.putAny hi hd (M7.ne i hi) (F := fun q => q < h.length) (fun e => by have e : r0 < h.length := e; omega) (fun e => by have e : ρ' i < h.length := e; have := g6 i hi; omega) (fun k hk e => by have e : ρ' k < h.length := e; have := g6 k hk; omega) (fun h8 n8 k8 R8 => ?_)⟩
      (conv => whnf)
      exact ⟨_, _, rfl, K7.trans k8 (fun q hq e => by omega), C7.keep k8 (fun q e => by omega), R8, S.small.set (by rw [List.length_drop]; omega)⟩
    · (conv => whnf)
      refine HIf.beq (fun h2' => ?_) (fun h2' => ?_)
      · (conv => whnf)
        refine HLit.of (xs := List.map ci [2]) rfl (ci_one _) (by decide) ?_
        have E8 := Ext.push h7 [Row.own (List.map ci [2])]
        have n8 : (h7 ++ [Row.own (List.map ci [2])]).length = h7.length + 1 := by simp
        have O8 := OwnR.push h7 [2]
        generalize h7 ++ [Row.own (List.map ci [2])] = h8 at E8 n8 O8 ⊢
        have hbl : (h7.take h.length).length = h.length := by simp; omega
        have OM : OwnM (h7.take h.length).length h7.length h7 (.sl r0 0 L.length) L := by
          rw [hbl]
          exact M7.own g1 g6
        (conv => whnf)
        refine HLit.row rfl ?_
        (conv => whnf)
        refine ⟨rfl, rfl, HApp.snocM (Ext.take h7 h.length) OM E8 (O8.own (by omega)) (by omega) (fun h9 y9 E9 O9 => ?_)⟩
        rw [hbl] at O9
        have low : ∀ q, q < h.length → h9[q]? = h7[q]? := fun q hq => by
          rw [E9.2 q (by omega), List.getElem?_take_of_lt hq]
        have n9 := E9.1
        rw [hbl] at n9
        have C9 := C7.low (h' := h9) (fun q hq => low q (by omega))
        (conv => whnf)
        exact ⟨_, _, rfl, ⟨n9, fun q hq hn => by rw [low q hq]; exact K7.2 q hq hn⟩, C9, O9.rowsN (fun q g1 g2 e => by omega), Small.snoc S (by simp)⟩
      · (conv => whnf)
        exact ⟨_, _, rfl, K7, C7, (M7.own g1 g6).rowsN (fun q g1 g2 e => by omega), S.small⟩

theorem HMax.len {a : Nat} {K : HV → Prop} (hK : ∀ n : Int, 1 ≤ n → n ≤ 1 + a → K (I n)) : HMax (I 1) (I a) K := by
  refine HMax.of ?_
  split
  · exact hK _ (by omega) (by omega)
  · exact hK _ (by omega) (by omega)

theorem spec_l5Word (h : Heap) (r : Nat) (x y : H0) (L : List (List Int)) (most : Nat) (C : Cur r h x) (hy : RowsN (fun q => q = r) h y L) (hL : L.length ≤ 1048576) (hm : most ≤ 1000) :
    HCalls dm Tryz.prog 118 [.s x, .s y, I most] h (fun v h' => ∃ z w q, v = .s z ∧ KeepR r h h' ∧ Cur r h' x ∧ h.length ≤ q ∧ OwnR q h' z w ∧ w.length ≤ most) := by
  have hr := C.lt
  refine calls_of_hFun (m := 0) kd_ok mixed Tryz.func118 rfl (by kernel_rfl) rfl rfl (of_decide_eq_true rfl) ?_; unfold hFun; (conv => whnf)
  refine HLit.empty ?_
  have E0 := Ext.push h [Row.own []]
  have O0 : OwnR h.length (h ++ [Row.own []]) (.sl h.length 0 0) [] := OwnR.push h []
  generalize h ++ [Row.own []] = h0 at E0 O0 ⊢
  have n0 := E0.1
  (conv => whnf)
  refine HArith.fits (by omega) (by omega) ?_
  (conv => whnf)
  refine (spec_l1Below _ r _ _ (C.ext E0) (by omega)).mono ?_
  rintro v h1 ⟨m, rfl, m0, m1, _, K1, C1⟩
  have m2 := m1 (by omega)
  have O1 := O0.keep K1 (by omega)
  have K1 : KeepR r h h1 := KeepR.then (KeepN.ofExt E0) K1
  (conv => whnf)
  refine HLoop.intro [8, 7] [14, 15, 18, 19, 20, 21, 22, 23, 24, 25, 7, 16, 17, 8] (by kernel_rfl) (by kernel_rfl) (fun vs h' => ∃ (n : Nat) (z : H0) (w : List Int) (q : Nat), vs = [I n, .s z] ∧ KeepR r h h' ∧ Cur r h' x ∧ h.length ≤ q ∧ OwnR q h' z w ∧ w.length + n ≤ most) (fun vs _ => natAt vs 0) ⟨m.toNat, _, [], h.length, by rw [Int.toNat_of_nonneg m0]; rfl, K1, C1, Nat.le_refl _, O1, by simp; omega⟩ ?_
  rintro vs h' ⟨n, z, w, q, rfl, K, C, hq, O, hn⟩
  have hy' := (hy.keep K (fun _ _ g => g)).rows
  have hkl := K.1
  (conv => whnf)
  refine HIf.dec (fun hgt => ?_) (fun hle => ?_)
  · (conv => whnf)
    refine ⟨rfl, hy'.len ?_⟩
    (conv => whnf)
    refine HMax.len (fun a ha1 ha2 => ?_)
    (conv => whnf)
    refine (spec_l1Below _ r _ a C (by omega)).mono ?_
    rintro v h2 ⟨b, rfl, b0, b1, _, K2, C2⟩
    have O2 := O.keep K2 (by omega)
    have K2 := K.then K2
    have n2 := K2.1
    (conv => whnf)
    refine HLit.of (xs := [ci b]) rfl (by simp [H0.one, Value.oneCell']) (by omega) ?_
    (conv => whnf)
    refine ⟨rfl, rfl, HApp.litR [b] O2 (by simp; omega) (fun h3 r3 y3 B3 hr3 O3 => ?_)⟩
    have K3 : KeepR r h h3 := K2.trans (G := fun p => p = q) B3 (fun p hp e => by omega)
    have C3 := C2.keep (F := fun p => p = q) B3 (fun p e => by omega)
    (conv => whnf)
    refine HArith.fits (by omega) (by omega) ?_
    (conv => whnf)
    exact ⟨⟨n - 1, y3, w ++ [b], r3, by rw [show ((n - 1 : Nat) : Int) = (n : Int) - 1 by omega]; rfl, K3, C3, by omega, O3, by simp; omega⟩, by show ((n : Int) - 1).toNat < n; omega⟩
  · (conv => whnf)
    exact ⟨_, _, _, rfl, K, C, hq, O, by omega⟩

end Go.Proofs.YtgliajcgcbnemaaGreatDoor.Hx
