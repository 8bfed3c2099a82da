
/-
  Contracts of ActOnRoot, of the program and of the reference.
-/
import Derived.Test.YtppddfodfbnolaaGe
namespace Go.Proofs.Ytppddfodfbnolaa.Hx
open Go.RowKit
variable {dm : Bool}

theorem lenN (n : Nat) : (((n : Int) - 1 : Int)) = ((n : Int) - 1) := rfl
theorem actR_end (c : List (List Int)) (w r : List Int) : actR c (w.drop w.length) r = r := by rw [List.drop_length]; rfl
theorem actR_all (c : List (List Int)) (w r : List Int) : actR c (w.drop 0) r = actR c w r := by rw [List.drop_zero]

/-- What a letter of a word is. -/
theorem letter {c : List (List Int)} {w : List Int} (h : lettersOk c w = true) {k : Nat} (hk : k < w.length) : ∃ i : Nat, w.getD k 0 = i ∧ i < c.length := by
  have := letters_get h hk
  exact ⟨(w.getD k 0).toNat, by omega, by omega⟩

def intAt (vs : List HV) (k : Nat) : Int := match vs[k]? with
  | some (.s (.pl (.int _ i))) => i
  | _ => 0


theorem impl_actedRoot (h : Heap) (x0 : H0) (a0 : List (List Int)) (x1 : H0) (a1 : List Int) (x2 : H0) (a2 : List Int) (hx0 : Rows h x0 a0) (hx1 : Ints h x1 a1) (hx2 : Ints h x2 a2) (hC : Cartan a0) (hw : lettersOk a0 a1 = true) (hl : a2.length = a0.length) (s1 : a1.length ≤ 1048576) :
    HCalls dm Try.prog 42 [.s x0, .s x1, .s x2] h (fun r h' => ∃ y, r = .s y ∧ Fresh h h' y (actR a0 a1 a2)) := by
  have hp := hC.le
  refine calls_of_hFun (m := 0) kd_ok mixed Try.func42 rfl (by kernel_rfl) rfl rfl (of_decide_eq_true rfl) ?_; unfold hFun; (conv => whnf)
  refine HLit.empty ?_
  (conv => whnf)
  refine ⟨rfl, rfl, HApp.copy hx2 (by omega) (fun h1 y1 E1 O1 => ?_)⟩
  have hx11 := hx1.ext E1
  (conv => whnf)
  refine ⟨rfl, hx11.len ?_⟩
  (conv => whnf)
  refine HArith.fits (by omega) (by omega) ?_
  (conv => whnf)
  refine HLoop.intro [8, 7] [15, 16, 19, 20, 21, 22, 23, 24, 25, 7, 17, 18, 8] (by kernel_rfl) (by kernel_rfl) (fun vs h' => ∃ (k : Nat) (y : H0), vs = [I ((k : Int) - 1), .s y] ∧ k ≤ a1.length ∧ Ext h h' ∧ Own h.length h'.length h' y (actR a0 (a1.drop k) a2)) (fun vs _ => (intAt vs 0 + 1).toNat) ⟨a1.length, _, rfl, Nat.le_refl _, E1, by rw [actR_end]; exact O1⟩ ?_
  rintro vs h' ⟨k, y, rfl, hk, E, O⟩
  have hx0 := hx0.ext E
  have hx1 := hx1.ext E
  have hal := actR_length a0 (a1.drop k) a2
  (conv => whnf)
  refine HIf.dec (fun hlt => ?_) (fun hge => ?_)
  · obtain ⟨m, rfl⟩ : ∃ m, k = m + 1 := ⟨k - 1, by omega⟩
    obtain ⟨i, hi, hic⟩ := letter hw (k := m) (by omega)
    have e1 : (((m + 1 : Nat) : Int) - 1).toNat = m := by omega
    have hrow := hC.row i hic
    (conv => whnf)
    refine ⟨rfl, Ints.idx hx1 (by omega) (by omega) (fun p hp => ?_)⟩
    rw [e1, hi] at hp
    (conv => whnf)
    refine ⟨rfl, hp.load ?_⟩
    (conv => whnf)
    refine (impl_mirrored _ _ _ a0 i _ hx0 O.ints (by omega) (by omega) (by omega) (by omega)).mono ?_
    rintro r h2 ⟨y2, rfl, hf⟩
    have hd := actR_drop a0 a1 a2 (k := m) (by omega)
    have e2 : (a1.getD m 0).toNat = i := by omega
    rw [e2] at hd
    rw [← hd] at hf
    (conv => whnf)
    refine HArith.fits (by omega) (by omega) ?_
    (conv => whnf)
    have e3 : ((m + 1 : Nat) : Int) - 1 - 1 = (m : Int) - 1 := by omega
    have hEE := E.trans hf.1
    obtain ⟨_, q, t, rfl, hq1, hq2⟩ := hf
    have := E.1
    exact ⟨⟨m, _, by rw [← e3]; rfl, by omega, hEE, q, t, rfl, by omega, get_lt hq2, hq2⟩, by show (((m + 1 : Nat) : Int) - 1 - 1 + 1).toNat < (((m + 1 : Nat) : Int) - 1 + 1).toNat; omega⟩
  · have e : k = 0 := by omega
    subst e
    rw [actR_all] at O
    (conv => whnf)
    exact ⟨_, rfl, Fresh.of E O⟩

theorem impl_ActOnRoot (h : Heap) (x0 : H0) (a0 : List (List Int)) (x1 : H0) (a1 : List Int) (x2 : H0) (a2 : List Int) (hx0 : Rows h x0 a0) (hx1 : Ints h x1 a1) (hx2 : Ints h x2 a2) (s0 : a0.length ≤ 1048576 ∧ tot a0 ≤ 1048576) (s1 : a1.length ≤ 1048576) (s2 : a2.length ≤ 1048576) :
    HCalls dm Try.prog 26 [.s x0, .s x1, .s x2] h (fun r h' => ∃ y, r = .s y ∧ Fresh h h' y (actOnRoot a0 a1 a2)) := by
  refine calls_of_hFun (m := 0) kd_ok mixed Try.func26 rfl (by kernel_rfl) rfl rfl (of_decide_eq_true rfl) ?_; unfold hFun; (conv => whnf)
  refine (impl_IsWord _ _ _ a0 a1 hx0 hx1 (by omega) (by omega)).mono ?_
  rintro r h1 ⟨rfl, rfl⟩
  (conv => whnf)
  cases hic : isWord a0 a1
  · (repeat (first | (refine ⟨rfl, Ints.len (by assumption) ?_⟩; conv => whnf) | (refine ⟨rfl, Rows.len (by assumption) ?_⟩; conv => whnf) | (refine ⟨rfl, HLen.sl ?_⟩; conv => whnf) | (refine ⟨rfl, At.load (by assumption) ?_⟩; conv => whnf) | (refine HIf.yes ?_; conv => whnf) | (refine HIf.no ?_; conv => whnf) | (refine HIf.isT (by assumption) ?_; conv => whnf) | (refine HIf.isF (by assumption) ?_; conv => whnf) | (refine HIf.decT (by assumption) ?_; conv => whnf) | (refine HIf.decF (by assumption) ?_; conv => whnf) | (refine HIf.beqT (by assumption) ?_; conv => whnf) | (refine HIf.beqF (by assumption) ?_; conv => whnf) | (refine HIf.bneT (by assumption) ?_; conv => whnf) | (refine HIf.bneF (by assumption) ?_; conv => whnf) | (refine ⟨rfl, Ints.idxN (by assumption) (by omega) (fun p hp => ?_)⟩; conv => whnf) | (refine ⟨rfl, Rows.idxN (by assumption) (by omega) (fun p y hp hy => ?_)⟩; conv => whnf) | (refine And.intro (show Kd.isBool _ = true from rfl) ?_; conv => whnf) | (refine ⟨rfl, Ints.idx (by assumption) (by omega) (by omega) (fun p hp => ?_)⟩; conv => whnf) | (refine ⟨rfl, Rows.idx (by assumption) (by omega) (by omega) (fun p y hp hy => ?_)⟩; conv => whnf) | (refine HArith.fits (by omega) (by omega) ?_; conv => whnf) | (refine Or.inl (And.intro (show Region.lexB _ _ = true by kernel_rfl) ?_); conv => whnf)))
    refine HLit.empty ?_
    (conv => whnf)
    refine ⟨rfl, rfl, HApp.copy hx2 (by omega) (fun h1 y1 E O => ?_)⟩
    (conv => whnf)
    rw [actOnRoot_off (Or.inl hic)]
    exact ⟨_, rfl, Fresh.of E O⟩
  (repeat (first | (refine ⟨rfl, Ints.len (by assumption) ?_⟩; conv => whnf) | (refine ⟨rfl, Rows.len (by assumption) ?_⟩; conv => whnf) | (refine ⟨rfl, HLen.sl ?_⟩; conv => whnf) | (refine ⟨rfl, At.load (by assumption) ?_⟩; conv => whnf) | (refine HIf.yes ?_; conv => whnf) | (refine HIf.no ?_; conv => whnf) | (refine HIf.isT (by assumption) ?_; conv => whnf) | (refine HIf.isF (by assumption) ?_; conv => whnf) | (refine HIf.decT (by assumption) ?_; conv => whnf) | (refine HIf.decF (by assumption) ?_; conv => whnf) | (refine HIf.beqT (by assumption) ?_; conv => whnf) | (refine HIf.beqF (by assumption) ?_; conv => whnf) | (refine HIf.bneT (by assumption) ?_; conv => whnf) | (refine HIf.bneF (by assumption) ?_; conv => whnf) | (refine ⟨rfl, Ints.idxN (by assumption) (by omega) (fun p hp => ?_)⟩; conv => whnf) | (refine ⟨rfl, Rows.idxN (by assumption) (by omega) (fun p y hp hy => ?_)⟩; conv => whnf) | (refine And.intro (show Kd.isBool _ = true from rfl) ?_; conv => whnf) | (refine ⟨rfl, Ints.idx (by assumption) (by omega) (by omega) (fun p hp => ?_)⟩; conv => whnf) | (refine ⟨rfl, Rows.idx (by assumption) (by omega) (by omega) (fun p y hp hy => ?_)⟩; conv => whnf) | (refine HArith.fits (by omega) (by omega) ?_; conv => whnf) | (refine Or.inl (And.intro (show Region.lexB _ _ = true by kernel_rfl) ?_); conv => whnf)))
  refine HIf.bne (fun hne => ?_) (fun heq => ?_)
  · (conv => whnf)
    refine HLit.empty ?_
    (conv => whnf)
    refine ⟨rfl, rfl, HApp.copy hx2 (by omega) (fun h1 y1 E O => ?_)⟩
    (conv => whnf)
    rw [actOnRoot_off (Or.inr (by omega))]
    exact ⟨_, rfl, Fresh.of E O⟩
  have hW := word_cartan hic
  rw [actOnRoot_on hic (by omega)]
  (conv => whnf)
  refine (impl_actedRoot _ _ a0 _ a1 _ a2 hx0 hx1 hx2 hW.1 hW.2.2 (by omega) s1).mono ?_
  rintro r h2 ⟨y, rfl, hf⟩
  (conv => whnf)
  exact ⟨_, rfl, hf⟩

theorem spec_ActOnRoot (h : Heap) (x0 : H0) (a0 : List (List Int)) (x1 : H0) (a1 : List Int) (x2 : H0) (a2 : List Int) (hx0 : Rows h x0 a0) (hx1 : Ints h x1 a1) (hx2 : Ints h x2 a2) (s0 : a0.length ≤ 1048576 ∧ tot a0 ≤ 1048576) (s1 : a1.length ≤ 1048576) (s2 : a2.length ≤ 1048576) :
    HCalls dm Try.prog 25 [.s x0, .s x1, .s x2] h (fun r h' => ∃ y, r = .s y ∧ Fresh h h' y (actOnRoot a0 a1 a2)) := by
  refine calls_of_hFun (m := 0) kd_ok mixed Try.func25 rfl (by kernel_rfl) rfl rfl (of_decide_eq_true rfl) ?_; unfold hFun; (conv => whnf)
  refine HLit.empty ?_
  (conv => whnf)
  refine ⟨rfl, rfl, HApp.copy hx2 (by omega) (fun h1 y1 E1 O1 => ?_)⟩
  have hx11 := hx1.ext E1
  (conv => whnf)
  refine ⟨rfl, hx11.len ?_⟩
  (conv => whnf)
  refine HArith.fits (by omega) (by omega) ?_
  (conv => whnf)
  refine HLoop.intro [8, 7] [15, 16, 17, 18, 19, 20, 21, 22, 23, 24, 25, 26, 27, 28, 31, 32, 33, 34, 35, 36, 37, 7, 29, 30, 8] (by kernel_rfl) (by kernel_rfl) (fun vs h' => ∃ (k : Nat) (y : H0), vs = [I ((k : Int) - 1), .s y] ∧ k ≤ a1.length ∧ (k = a1.length ∨ (isWord a0 a1 = true ∧ a2.length = a0.length)) ∧ Ext h h' ∧ Own h.length h'.length h' y (actR a0 (a1.drop k) a2)) (fun vs _ => (intAt vs 0 + 1).toNat) ⟨a1.length, _, rfl, Nat.le_refl _, Or.inl rfl, E1, by rw [actR_end]; exact O1⟩ ?_
  rintro vs h' ⟨k, y, rfl, hk, hok, E, O⟩
  have hx0 := hx0.ext E
  have hx1 := hx1.ext E
  have hx2 := hx2.ext E
  have hal := actR_length a0 (a1.drop k) a2
  have off : k = a1.length → (isWord a0 a1 = false ∨ a2.length ≠ a0.length) → Fresh h h' y (actOnRoot a0 a1 a2) := fun e ho => by
    subst e
    rw [actOnRoot_off ho]
    rw [actR_end] at O
    exact Fresh.of E O
  (conv => whnf)
  refine HIf.dec (fun hlt => ?_) (fun hge => ?_)
  · (conv => whnf)
    (repeat (first | (refine ⟨rfl, Ints.len (by assumption) ?_⟩; conv => whnf) | (refine ⟨rfl, Rows.len (by assumption) ?_⟩; conv => whnf) | (refine ⟨rfl, HLen.sl ?_⟩; conv => whnf) | (refine ⟨rfl, At.load (by assumption) ?_⟩; conv => whnf) | (refine HIf.yes ?_; conv => whnf) | (refine HIf.no ?_; conv => whnf) | (refine HIf.isT (by assumption) ?_; conv => whnf) | (refine HIf.isF (by assumption) ?_; conv => whnf) | (refine HIf.decT (by assumption) ?_; conv => whnf) | (refine HIf.decF (by assumption) ?_; conv => whnf) | (refine HIf.beqT (by assumption) ?_; conv => whnf) | (refine HIf.beqF (by assumption) ?_; conv => whnf) | (refine HIf.bneT (by assumption) ?_; conv => whnf) | (refine HIf.bneF (by assumption) ?_; conv => whnf) | (refine ⟨rfl, Ints.idxN (by assumption) (by omega) (fun p hp => ?_)⟩; conv => whnf) | (refine ⟨rfl, Rows.idxN (by assumption) (by omega) (fun p y hp hy => ?_)⟩; conv => whnf) | (refine And.intro (show Kd.isBool _ = true from rfl) ?_; conv => whnf) | (refine ⟨rfl, Ints.idx (by assumption) (by omega) (by omega) (fun p hp => ?_)⟩; conv => whnf) | (refine ⟨rfl, Rows.idx (by assumption) (by omega) (by omega) (fun p y hp hy => ?_)⟩; conv => whnf) | (refine HArith.fits (by omega) (by omega) ?_; conv => whnf) | (refine Or.inl (And.intro (show Region.lexB _ _ = true by kernel_rfl) ?_); conv => whnf)))
    refine (spec_IsWord _ _ _ a0 a1 hx0 hx1 (by omega) (by omega)).mono ?_
    rintro r h2 ⟨rfl, rfl⟩
    (conv => whnf)
    (repeat (first | (refine ⟨rfl, Ints.len (by assumption) ?_⟩; conv => whnf) | (refine ⟨rfl, Rows.len (by assumption) ?_⟩; conv => whnf) | (refine ⟨rfl, HLen.sl ?_⟩; conv => whnf) | (refine ⟨rfl, At.load (by assumption) ?_⟩; conv => whnf) | (refine HIf.yes ?_; conv => whnf) | (refine HIf.no ?_; conv => whnf) | (refine HIf.isT (by assumption) ?_; conv => whnf) | (refine HIf.isF (by assumption) ?_; conv => whnf) | (refine HIf.decT (by assumption) ?_; conv => whnf) | (refine HIf.decF (by assumption) ?_; conv => whnf) | (refine HIf.beqT (by assumption) ?_; conv => whnf) | (refine HIf.beqF (by assumption) ?_; conv => whnf) | (refine HIf.bneT (by assumption) ?_; conv => whnf) | (refine HIf.bneF (by assumption) ?_; conv => whnf) | (refine ⟨rfl, Ints.idxN (by assumption) (by omega) (fun p hp => ?_)⟩; conv => whnf) | (refine ⟨rfl, Rows.idxN (by assumption) (by omega) (fun p y hp hy => ?_)⟩; conv => whnf) | (refine And.intro (show Kd.isBool _ = true from rfl) ?_; conv => whnf) | (refine ⟨rfl, Ints.idx (by assumption) (by omega) (by omega) (fun p hp => ?_)⟩; conv => whnf) | (refine ⟨rfl, Rows.idx (by assumption) (by omega) (by omega) (fun p y hp hy => ?_)⟩; conv => whnf) | (refine HArith.fits (by omega) (by omega) ?_; conv => whnf) | (refine Or.inl (And.intro (show Region.lexB _ _ = true by kernel_rfl) ?_); conv => whnf)))
    cases hic : isWord a0 a1
    · (repeat (first | (refine ⟨rfl, Ints.len (by assumption) ?_⟩; conv => whnf) | (refine ⟨rfl, Rows.len (by assumption) ?_⟩; conv => whnf) | (refine ⟨rfl, HLen.sl ?_⟩; conv => whnf) | (refine ⟨rfl, At.load (by assumption) ?_⟩; conv => whnf) | (refine HIf.yes ?_; conv => whnf) | (refine HIf.no ?_; conv => whnf) | (refine HIf.isT (by assumption) ?_; conv => whnf) | (refine HIf.isF (by assumption) ?_; conv => whnf) | (refine HIf.decT (by assumption) ?_; conv => whnf) | (refine HIf.decF (by assumption) ?_; conv => whnf) | (refine HIf.beqT (by assumption) ?_; conv => whnf) | (refine HIf.beqF (by assumption) ?_; conv => whnf) | (refine HIf.bneT (by assumption) ?_; conv => whnf) | (refine HIf.bneF (by assumption) ?_; conv => whnf) | (refine ⟨rfl, Ints.idxN (by assumption) (by omega) (fun p hp => ?_)⟩; conv => whnf) | (refine ⟨rfl, Rows.idxN (by assumption) (by omega) (fun p y hp hy => ?_)⟩; conv => whnf) | (refine And.intro (show Kd.isBool _ = true from rfl) ?_; conv => whnf) | (refine ⟨rfl, Ints.idx (by assumption) (by omega) (by omega) (fun p hp => ?_)⟩; conv => whnf) | (refine ⟨rfl, Rows.idx (by assumption) (by omega) (by omega) (fun p y hp hy => ?_)⟩; conv => whnf) | (refine HArith.fits (by omega) (by omega) ?_; conv => whnf) | (refine Or.inl (And.intro (show Region.lexB _ _ = true by kernel_rfl) ?_); conv => whnf)))
      exact ⟨_, rfl, off (by rcases hok with h | h; exact h; rw [hic] at h; cases h.1) (Or.inl hic)⟩
    (repeat (first | (refine ⟨rfl, Ints.len (by assumption) ?_⟩; conv => whnf) | (refine ⟨rfl, Rows.len (by assumption) ?_⟩; conv => whnf) | (refine ⟨rfl, HLen.sl ?_⟩; conv => whnf) | (refine ⟨rfl, At.load (by assumption) ?_⟩; conv => whnf) | (refine HIf.yes ?_; conv => whnf) | (refine HIf.no ?_; conv => whnf) | (refine HIf.isT (by assumption) ?_; conv => whnf) | (refine HIf.isF (by assumption) ?_; conv => whnf) | (refine HIf.decT (by assumption) ?_; conv => whnf) | (refine HIf.decF (by assumption) ?_; conv => whnf) | (refine HIf.beqT (by assumption) ?_; conv => whnf) | (refine HIf.beqF (by assumption) ?_; conv => whnf) | (refine HIf.bneT (by assumption) ?_; conv => whnf) | (refine HIf.bneF (by assumption) ?_; conv => whnf) | (refine ⟨rfl, Ints.idxN (by assumption) (by omega) (fun p hp => ?_)⟩; conv => whnf) | (refine ⟨rfl, Rows.idxN (by assumption) (by omega) (fun p y hp hy => ?_)⟩; conv => whnf) | (refine And.intro (show Kd.isBool _ = true from rfl) ?_; conv => whnf) | (refine ⟨rfl, Ints.idx (by assumption) (by omega) (by omega) (fun p hp => ?_)⟩; conv => whnf) | (refine ⟨rfl, Rows.idx (by assumption) (by omega) (by omega) (fun p y hp hy => ?_)⟩; conv => whnf) | (refine HArith.fits (by omega) (by omega) ?_; conv => whnf) | (refine Or.inl (And.intro (show Region.lexB _ _ = true by kernel_rfl) ?_); conv => whnf)))
    refine HIf.beq (fun heq => ?_) (fun hne => ?_)
    · obtain ⟨hC, _, hw⟩ := word_cartan hic
      obtain ⟨m, rfl⟩ : ∃ m, k = m + 1 := ⟨k - 1, by omega⟩
      obtain ⟨i, hi, hil⟩ := letter hw (k := m) (by omega)
      have e1 : (((m + 1 : Nat) : Int) - 1).toNat = m := by omega
      have hrow := hC.row i hil
      have hp := hC.le
      (conv => whnf)
      refine ⟨rfl, Ints.idx hx1 (by omega) (by omega) (fun p hp => ?_)⟩
      rw [e1, hi] at hp
      (conv => whnf)
      refine ⟨rfl, hp.load ?_⟩
      (conv => whnf)
      refine (spec_l7Reflect _ _ _ a0 i _ hx0 O.ints (by omega) (by omega) (by omega) (by omega)).mono ?_
      rintro r h3 ⟨y2, rfl, hf⟩
      have hd := actR_drop a0 a1 a2 (k := m) (by omega)
      have e2 : (a1.getD m 0).toNat = i := by omega
      rw [e2] at hd
      rw [← hd] at hf
      (conv => whnf)
      refine HArith.fits (by omega) (by omega) ?_
      (conv => whnf)
      have e3 : ((m + 1 : Nat) : Int) - 1 - 1 = (m : Int) - 1 := by omega
      have hEE := E.trans hf.1
      obtain ⟨_, q, t, rfl, hq1, hq2⟩ := hf
      have := E.1
      exact ⟨⟨m, _, by rw [← e3]; rfl, by omega, Or.inr ⟨(by first | rfl | exact hic), by omega⟩, hEE, q, t, rfl, by omega, get_lt hq2, hq2⟩, by show (((m + 1 : Nat) : Int) - 1 - 1 + 1).toNat < (((m + 1 : Nat) : Int) - 1 + 1).toNat; omega⟩
    · (conv => whnf)
      exact ⟨_, rfl, off (by rcases hok with h | h; exact h; have := h.2; omega) (Or.inr (by omega))⟩
  · have e : k = 0 := by omega
    (conv => whnf)
    (repeat (first | (refine HIf.decF hge ?_; conv => whnf) | (refine HIf.no ?_; conv => whnf)))
    subst e
    have O' := O
    rw [actR_all] at O'
    rcases hok with h0 | ⟨hic, hl⟩
    · have hnil : a1 = [] := List.eq_nil_of_length_eq_zero h0.symm
      subst hnil
      have e4 : actOnRoot a0 [] a2 = a2 := by unfold actOnRoot; split <;> rfl
      rw [e4]
      exact ⟨_, rfl, Fresh.of E O'⟩
    · rw [actOnRoot_on hic hl]
      exact ⟨_, rfl, Fresh.of E O'⟩

end Go.Proofs.Ytppddfodfbnolaa.Hx
