/-
  Contracts of lengths, normal forms, elements, inverses and products, of the program and of the reference.
-/
import Derived.Test.YtjgnnjegaedinaaZ11
namespace Go.Proofs.Ytjgnnjegaedinaa.Hx
open Go.RowKit
variable {dm : Bool}

def normalForm (c : List (List Int)) (w : List Int) : List Int := if isWord c w then normF c w else []
def lengthI (c : List (List Int)) (w : List Int) : Int := if isWord c w then ((normF c w).length : Int) else -1
def isReduced (c : List (List Int)) (w : List Int) : Bool := isWord c w && decide ((normF c w).length = w.length)
def isElement (c : List (List Int)) (w : List Int) : Bool := isWord c w && decide (normF c w = w)
def mulOk (c : List (List Int)) (a b : List Int) : Bool := isWord c a && isWord c b && decide ((normF c (a ++ b)).length ≤ 15)
def mul (c : List (List Int)) (a b : List Int) : List Int := if mulOk c a b then normF c (a ++ b) else []
def conjOk (c : List (List Int)) (w b : List Int) : Bool := mulOk c b.reverse w && mulOk c (mul c b.reverse w) b
def conj (c : List (List Int)) (w b : List Int) : List Int := if conjOk c w b then mul c (mul c b.reverse w) b else []
def isInvol (c : List (List Int)) (w : List Int) : Bool := isWord c w && decide (0 < (normF c w).length) && decide (imageOf c w = imageOf c w.reverse)

theorem normF_len {c : List (List Int)} {w : List Int} (hC : Cartan c) (hw : lettersOk c w = true) (hl : w.length ≤ 30) : (normF c w).length ≤ w.length := by
  obtain ⟨n, hn, P⟩ := play_image hC hw (by omega)
  unfold normF
  rw [nf_len hC n _ 31 P (by omega) (by omega)]
  exact hn
theorem normF_letters {c : List (List Int)} {w : List Int} (hC : Cartan c) (hw : lettersOk c w = true) (hl : w.length ≤ 30) : lettersOk c (normF c w) = true := by
  obtain ⟨n, hn, P⟩ := play_image hC hw (by omega)
  exact nf_letters hC n _ 31 P (by omega) (by omega)
theorem normF_image {c : List (List Int)} {w : List Int} (hC : Cartan c) (hw : lettersOk c w = true) (hl : w.length ≤ 30) : imageOf c (normF c w) = imageOf c w := by
  obtain ⟨n, hn, P⟩ := play_image hC hw (by omega)
  exact nf_image hC n _ 31 P (by omega) (by omega)
theorem normF_word {c : List (List Int)} {w : List Int} (h : isWord c w = true) : (normF c w).length ≤ 15 ∧ isWord c (normF c w) = true := by
  obtain ⟨hC, hl, hw⟩ := word_cartan h
  have h1 := normF_len hC hw (by omega)
  have h2 := normF_letters hC hw (by omega)
  refine ⟨by omega, ?_⟩
  simp only [isWord, Bool.and_eq_true, decide_eq_true_eq]
  exact ⟨⟨(isCartan_iff c).2 hC, by omega⟩, h2⟩
theorem actW_app (c : List (List Int)) : ∀ (a b v : List Int), actW c (a ++ b) v = actW c a (actW c b v)
  | [], _, _ => rfl
  | i :: a, b, v => by rw [List.cons_append, actW, actW, actW_app c a b v]
theorem image_app (c : List (List Int)) (a b : List Int) : imageOf c (a ++ b) = actW c a (imageOf c b) := actW_app c a b _
theorem normF_app {c : List (List Int)} {a b : List Int} (hC : Cartan c) (hb : lettersOk c b = true) (hl : b.length ≤ 30) : normF c (a ++ normF c b) = normF c (a ++ b) := by
  unfold normF
  rw [image_app, image_app]
  have := normF_image hC hb hl
  unfold normF at this
  rw [this]
theorem normF_le (c : List (List Int)) (w : List Int) : (normF c w).length ≤ 31 := by
  have : ∀ (f : Nat) (v : List Int), (nf c f v).length ≤ f := by
    intro f
    induction f with
    | zero => intro v; rw [nf_zero]; exact Nat.le_refl _
    | succ f ih =>
      intro v
      rw [nf]
      split
      · have := ih (reflW c (fd v) v)
        simp only [List.length_cons]
        omega
      · simp
  exact this 31 _
theorem normalForm_le (c : List (List Int)) (w : List Int) : (normalForm c w).length ≤ 31 := by
  unfold normalForm
  split
  · exact normF_le _ _
  · simp
theorem mul_le (c : List (List Int)) (a b : List Int) : (mul c a b).length ≤ 31 := by
  unfold mul
  split
  · exact normF_le _ _
  · simp
theorem conj_le (c : List (List Int)) (a b : List Int) : (conj c a b).length ≤ 31 := by
  unfold conj
  split
  · exact mul_le _ _ _
  · simp
theorem lettersOk_rev (c : List (List Int)) (w : List Int) : lettersOk c w.reverse = lettersOk c w := by simp [lettersOk]
theorem isWord_rev (c : List (List Int)) (w : List Int) : isWord c w.reverse = isWord c w := by simp [isWord, lettersOk_rev]

theorem normalForm_off {c : List (List Int)} {w : List Int} (h : isWord c w = false) : normalForm c w = [] := by simp [normalForm, h]
theorem normalForm_on {c : List (List Int)} {w : List Int} (h : isWord c w = true) : normalForm c w = normF c w := by simp [normalForm, h]
theorem lengthI_off {c : List (List Int)} {w : List Int} (h : isWord c w = false) : lengthI c w = -1 := by simp [lengthI, h]
theorem lengthI_on {c : List (List Int)} {w : List Int} (h : isWord c w = true) : lengthI c w = ((normF c w).length : Int) := by simp [lengthI, h]
theorem isReduced_of (c : List (List Int)) (w : List Int) : (lengthI c w == (w.length : Int)) = isReduced c w := by
  cases h : isWord c w
  · rw [lengthI_off h]
    simp only [isReduced, h, Bool.false_and, beq_eq_false_iff_ne]
    omega
  · rw [lengthI_on h]
    simp only [isReduced, h, Bool.true_and]
    by_cases e : (normF c w).length = w.length
    · simp [e]
    · simp [e]
      omega
theorem isReduced_len {c : List (List Int)} {w : List Int} (h : isWord c w = true) : (((normF c w).length : Int) == (w.length : Int)) = isReduced c w := by
  rw [← isReduced_of, lengthI_on h]
theorem isReduced_off {c : List (List Int)} {w : List Int} (h : isWord c w = false) : isReduced c w = false := by simp [isReduced, h]
theorem isElement_off {c : List (List Int)} {w : List Int} (h : isWord c w = false) : isElement c w = false := by simp [isElement, h]
theorem isElement_on {c : List (List Int)} {w : List Int} (h : isWord c w = true) : isElement c w = decide (normF c w = w) := by simp [isElement, h]
theorem mulOk_off {c : List (List Int)} {a b : List Int} (h : isWord c a = false ∨ isWord c b = false) : mulOk c a b = false := by
  rcases h with h | h <;> simp [mulOk, h]
theorem mulOk_on {c : List (List Int)} {a b : List Int} (h : isWord c a = true) (h2 : isWord c b = true) : mulOk c a b = decide ((normF c (a ++ b)).length ≤ 15) := by simp [mulOk, h, h2]
theorem mul_off {c : List (List Int)} {a b : List Int} (h : mulOk c a b = false) : mul c a b = [] := by simp [mul, h]
theorem mul_on {c : List (List Int)} {a b : List Int} (h : mulOk c a b = true) : mul c a b = normF c (a ++ b) := by simp [mul, h]
theorem conj_off {c : List (List Int)} {w b : List Int} (h : mulOk c b.reverse w = false) : conjOk c w b = false ∧ conj c w b = [] := by simp [conj, conjOk, h]
theorem conj_on {c : List (List Int)} {w b : List Int} (h : mulOk c b.reverse w = true) : conjOk c w b = mulOk c (mul c b.reverse w) b ∧ conj c w b = mul c (mul c b.reverse w) b := by
  have e : conjOk c w b = mulOk c (mul c b.reverse w) b := by simp [conjOk, h]
  refine ⟨e, ?_⟩
  unfold conj
  rw [e]
  cases h2 : mulOk c (mul c b.reverse w) b
  · rw [mul_off h2]
    rfl
  · rfl
theorem isInvol_off {c : List (List Int)} {w : List Int} (h : isWord c w = false) : isInvol c w = false := by simp [isInvol, h]
theorem isInvol_on {c : List (List Int)} {w : List Int} (h : isWord c w = true) (h2 : 0 < (normF c w).length) : isInvol c w = decide (imageOf c w = imageOf c w.reverse) := by simp [isInvol, h, h2]
theorem isInvol_none {c : List (List Int)} {w : List Int} (h2 : ¬ 0 < (normF c w).length) : isInvol c w = false := by simp [isInvol, h2]
theorem commute_self {c : List (List Int)} {w : List Int} (h : isWord c w = true) : commute c w w = true := by simp [commute, h]
theorem areSame_rev {c : List (List Int)} {w : List Int} (h : isWord c w = true) : areSame c w w.reverse = decide (imageOf c w = imageOf c w.reverse) := by
  have := (isWord_rev c w).trans h
  simp [areSame, h, this]

/-- A slice and a Bool. -/
abbrev T2 (y : H0) (b : Bool) : HV := .tup [y, .pl (.bool b)]


theorem impl_lengthOf (h : Heap) (x0 : H0) (a0 : List (List Int)) (x1 : H0) (a1 : List Int) (hx0 : Rows h x0 a0) (hx1 : Ints h x1 a1) (hC : Cartan a0) (hw : lettersOk a0 a1 = true) (s1 : a1.length ≤ 30) :
    HCalls dm Try.prog 62 [.s x0, .s x1] h (fun r h' => r = I (normF a0 a1).length ∧ Ext h h') := by
  refine calls_of_hFun (m := 0) kd_ok mixed Try.func62 rfl (by kernel_rfl) rfl rfl (of_decide_eq_true rfl) ?_; unfold hFun; (conv => whnf)
  refine (impl_reduced _ _ a0 _ a1 hx0 hx1 hC hw s1).mono ?_
  rintro r h1 ⟨y1, rfl, f1⟩
  (conv => whnf)
  refine ⟨rfl, f1.ints.len ?_⟩
  (conv => whnf)
  exact ⟨rfl, f1.1⟩

theorem impl_NormalForm (h : Heap) (x0 : H0) (a0 : List (List Int)) (x1 : H0) (a1 : List Int) (hx0 : Rows h x0 a0) (hx1 : Ints h x1 a1) (s0 : a0.length ≤ 1048576 ∧ tot a0 ≤ 1048576) (s1 : a1.length ≤ 1048576) :
    HCalls dm Try.prog 27 [.s x0, .s x1] h (fun r h' => ∃ y, r = T2 y (isWord a0 a1) ∧ Fresh h h' y (normalForm a0 a1)) := by
  refine calls_of_hFun (m := 0) kd_ok mixed Try.func27 rfl (by kernel_rfl) rfl rfl (of_decide_eq_true rfl) ?_; unfold hFun; (conv => whnf)
  refine (impl_IsWord _ _ _ a0 a1 hx0 hx1 (by omega) (by omega)).mono ?_
  rintro r h1 ⟨rfl, rfl⟩
  (conv => whnf)
  cases hic : isWord a0 a1
  · (repeat (first | (refine ⟨rfl, Ints.len (by assumption) ?_⟩; conv => whnf) | (refine ⟨rfl, Rows.len (by assumption) ?_⟩; conv => whnf) | (refine ⟨rfl, HLen.sl ?_⟩; conv => whnf) | (refine ⟨rfl, At.load (by assumption) ?_⟩; conv => whnf) | (refine HIf.yes ?_; conv => whnf) | (refine HIf.no ?_; conv => whnf) | (refine HIf.isT (by assumption) ?_; conv => whnf) | (refine HIf.isF (by assumption) ?_; conv => whnf) | (refine HIf.decT (by assumption) ?_; conv => whnf) | (refine HIf.decF (by assumption) ?_; conv => whnf) | (refine HIf.beqT (by assumption) ?_; conv => whnf) | (refine HIf.beqF (by assumption) ?_; conv => whnf) | (refine HIf.bneT (by assumption) ?_; conv => whnf) | (refine HIf.bneF (by assumption) ?_; conv => whnf) | (refine ⟨rfl, Ints.idxN (by assumption) (by omega) (fun p hp => ?_)⟩; conv => whnf) | (refine ⟨rfl, Rows.idxN (by assumption) (by omega) (fun p y hp hy => ?_)⟩; conv => whnf) | (refine And.intro (show Kd.isBool _ = true from rfl) ?_; conv => whnf) | (refine ⟨rfl, Ints.idx (by assumption) (by omega) (by omega) (fun p hp => ?_)⟩; conv => whnf) | (refine ⟨rfl, Rows.idx (by assumption) (by omega) (by omega) (fun p y hp hy => ?_)⟩; conv => whnf) | (refine HArith.fits (by omega) (by omega) ?_; conv => whnf) | (refine Or.inl (And.intro (show Region.lexB _ _ = true by kernel_rfl) ?_); conv => whnf)))
    refine HLit.empty ?_
    (conv => whnf)
    exact ⟨_, rfl, Fresh.none _ (normalForm_off hic)⟩
  obtain ⟨hC, hl, hw⟩ := word_cartan hic
  rw [normalForm_on hic]
  (repeat (first | (refine ⟨rfl, Ints.len (by assumption) ?_⟩; conv => whnf) | (refine ⟨rfl, Rows.len (by assumption) ?_⟩; conv => whnf) | (refine ⟨rfl, HLen.sl ?_⟩; conv => whnf) | (refine ⟨rfl, At.load (by assumption) ?_⟩; conv => whnf) | (refine HIf.yes ?_; conv => whnf) | (refine HIf.no ?_; conv => whnf) | (refine HIf.isT (by assumption) ?_; conv => whnf) | (refine HIf.isF (by assumption) ?_; conv => whnf) | (refine HIf.decT (by assumption) ?_; conv => whnf) | (refine HIf.decF (by assumption) ?_; conv => whnf) | (refine HIf.beqT (by assumption) ?_; conv => whnf) | (refine HIf.beqF (by assumption) ?_; conv => whnf) | (refine HIf.bneT (by assumption) ?_; conv => whnf) | (refine HIf.bneF (by assumption) ?_; conv => whnf) | (refine ⟨rfl, Ints.idxN (by assumption) (by omega) (fun p hp => ?_)⟩; conv => whnf) | (refine ⟨rfl, Rows.idxN (by assumption) (by omega) (fun p y hp hy => ?_)⟩; conv => whnf) | (refine And.intro (show Kd.isBool _ = true from rfl) ?_; conv => whnf) | (refine ⟨rfl, Ints.idx (by assumption) (by omega) (by omega) (fun p hp => ?_)⟩; conv => whnf) | (refine ⟨rfl, Rows.idx (by assumption) (by omega) (by omega) (fun p y hp hy => ?_)⟩; conv => whnf) | (refine HArith.fits (by omega) (by omega) ?_; conv => whnf) | (refine Or.inl (And.intro (show Region.lexB _ _ = true by kernel_rfl) ?_); conv => whnf)))
  refine (impl_reduced _ _ a0 _ a1 hx0 hx1 hC hw (by omega)).mono ?_
  rintro r h1 ⟨y1, rfl, f1⟩
  (conv => whnf)
  exact ⟨_, rfl, f1⟩

theorem spec_NormalForm (h : Heap) (x0 : H0) (a0 : List (List Int)) (x1 : H0) (a1 : List Int) (hx0 : Rows h x0 a0) (hx1 : Ints h x1 a1) (s0 : a0.length ≤ 1048576 ∧ tot a0 ≤ 1048576) (s1 : a1.length ≤ 1048576) :
    HCalls dm Try.prog 28 [.s x0, .s x1] h (fun r h' => ∃ y, r = T2 y (isWord a0 a1) ∧ Fresh h h' y (normalForm a0 a1)) := by
  refine calls_of_hFun (m := 0) kd_ok mixed Try.func28 rfl (by kernel_rfl) rfl rfl (of_decide_eq_true rfl) ?_; unfold hFun; (conv => whnf)
  refine (spec_IsWord _ _ _ a0 a1 hx0 hx1 (by omega) (by omega)).mono ?_
  rintro r h1 ⟨rfl, rfl⟩
  (conv => whnf)
  cases hic : isWord a0 a1
  · (repeat (first | (refine ⟨rfl, Ints.len (by assumption) ?_⟩; conv => whnf) | (refine ⟨rfl, Rows.len (by assumption) ?_⟩; conv => whnf) | (refine ⟨rfl, HLen.sl ?_⟩; conv => whnf) | (refine ⟨rfl, At.load (by assumption) ?_⟩; conv => whnf) | (refine HIf.yes ?_; conv => whnf) | (refine HIf.no ?_; conv => whnf) | (refine HIf.isT (by assumption) ?_; conv => whnf) | (refine HIf.isF (by assumption) ?_; conv => whnf) | (refine HIf.decT (by assumption) ?_; conv => whnf) | (refine HIf.decF (by assumption) ?_; conv => whnf) | (refine HIf.beqT (by assumption) ?_; conv => whnf) | (refine HIf.beqF (by assumption) ?_; conv => whnf) | (refine HIf.bneT (by assumption) ?_; conv => whnf) | (refine HIf.bneF (by assumption) ?_; conv => whnf) | (refine ⟨rfl, Ints.idxN (by assumption) (by omega) (fun p hp => ?_)⟩; conv => whnf) | (refine ⟨rfl, Rows.idxN (by assumption) (by omega) (fun p y hp hy => ?_)⟩; conv => whnf) | (refine And.intro (show Kd.isBool _ = true from rfl) ?_; conv => whnf) | (refine ⟨rfl, Ints.idx (by assumption) (by omega) (by omega) (fun p hp => ?_)⟩; conv => whnf) | (refine ⟨rfl, Rows.idx (by assumption) (by omega) (by omega) (fun p y hp hy => ?_)⟩; conv => whnf) | (refine HArith.fits (by omega) (by omega) ?_; conv => whnf) | (refine Or.inl (And.intro (show Region.lexB _ _ = true by kernel_rfl) ?_); conv => whnf)))
    refine HLit.empty ?_
    (conv => whnf)
    exact ⟨_, rfl, Fresh.none _ (normalForm_off hic)⟩
  obtain ⟨hC, hl, hw⟩ := word_cartan hic
  rw [normalForm_on hic]
  (repeat (first | (refine ⟨rfl, Ints.len (by assumption) ?_⟩; conv => whnf) | (refine ⟨rfl, Rows.len (by assumption) ?_⟩; conv => whnf) | (refine ⟨rfl, HLen.sl ?_⟩; conv => whnf) | (refine ⟨rfl, At.load (by assumption) ?_⟩; conv => whnf) | (refine HIf.yes ?_; conv => whnf) | (refine HIf.no ?_; conv => whnf) | (refine HIf.isT (by assumption) ?_; conv => whnf) | (refine HIf.isF (by assumption) ?_; conv => whnf) | (refine HIf.decT (by assumption) ?_; conv => whnf) | (refine HIf.decF (by assumption) ?_; conv => whnf) | (refine HIf.beqT (by assumption) ?_; conv => whnf) | (refine HIf.beqF (by assumption) ?_; conv => whnf) | (refine HIf.bneT (by assumption) ?_; conv => whnf) | (refine HIf.bneF (by assumption) ?_; conv => whnf) | (refine ⟨rfl, Ints.idxN (by assumption) (by omega) (fun p hp => ?_)⟩; conv => whnf) | (refine ⟨rfl, Rows.idxN (by assumption) (by omega) (fun p y hp hy => ?_)⟩; conv => whnf) | (refine And.intro (show Kd.isBool _ = true from rfl) ?_; conv => whnf) | (refine ⟨rfl, Ints.idx (by assumption) (by omega) (by omega) (fun p hp => ?_)⟩; conv => whnf) | (refine ⟨rfl, Rows.idx (by assumption) (by omega) (by omega) (fun p y hp hy => ?_)⟩; conv => whnf) | (refine HArith.fits (by omega) (by omega) ?_; conv => whnf) | (refine Or.inl (And.intro (show Region.lexB _ _ = true by kernel_rfl) ?_); conv => whnf)))
  refine (spec_l8Normal _ _ a0 _ a1 hx0 hx1 hC hw (by omega)).mono ?_
  rintro r h1 ⟨y1, rfl, f1⟩
  (conv => whnf)
  exact ⟨_, rfl, f1⟩

theorem impl_LengthOf (h : Heap) (x0 : H0) (a0 : List (List Int)) (x1 : H0) (a1 : List Int) (hx0 : Rows h x0 a0) (hx1 : Ints h x1 a1) (s0 : a0.length ≤ 1048576 ∧ tot a0 ≤ 1048576) (s1 : a1.length ≤ 1048576) :
    HCalls dm Try.prog 29 [.s x0, .s x1] h (fun r h' => r = I (lengthI a0 a1) ∧ Ext h h') := by
  refine calls_of_hFun (m := 0) kd_ok mixed Try.func29 rfl (by kernel_rfl) rfl rfl (of_decide_eq_true rfl) ?_; unfold hFun; (conv => whnf)
  refine (impl_IsWord _ _ _ a0 a1 hx0 hx1 (by omega) (by omega)).mono ?_
  rintro r h1 ⟨rfl, rfl⟩
  (conv => whnf)
  cases hic : isWord a0 a1
  · rw [lengthI_off hic]
    (repeat (first | (refine ⟨rfl, Ints.len (by assumption) ?_⟩; conv => whnf) | (refine ⟨rfl, Rows.len (by assumption) ?_⟩; conv => whnf) | (refine ⟨rfl, HLen.sl ?_⟩; conv => whnf) | (refine ⟨rfl, At.load (by assumption) ?_⟩; conv => whnf) | (refine HIf.yes ?_; conv => whnf) | (refine HIf.no ?_; conv => whnf) | (refine HIf.isT (by assumption) ?_; conv => whnf) | (refine HIf.isF (by assumption) ?_; conv => whnf) | (refine HIf.decT (by assumption) ?_; conv => whnf) | (refine HIf.decF (by assumption) ?_; conv => whnf) | (refine HIf.beqT (by assumption) ?_; conv => whnf) | (refine HIf.beqF (by assumption) ?_; conv => whnf) | (refine HIf.bneT (by assumption) ?_; conv => whnf) | (refine HIf.bneF (by assumption) ?_; conv => whnf) | (refine ⟨rfl, Ints.idxN (by assumption) (by omega) (fun p hp => ?_)⟩; conv => whnf) | (refine ⟨rfl, Rows.idxN (by assumption) (by omega) (fun p y hp hy => ?_)⟩; conv => whnf) | (refine And.intro (show Kd.isBool _ = true from rfl) ?_; conv => whnf) | (refine ⟨rfl, Ints.idx (by assumption) (by omega) (by omega) (fun p hp => ?_)⟩; conv => whnf) | (refine ⟨rfl, Rows.idx (by assumption) (by omega) (by omega) (fun p y hp hy => ?_)⟩; conv => whnf) | (refine HArith.fits (by omega) (by omega) ?_; conv => whnf) | (refine Or.inl (And.intro (show Region.lexB _ _ = true by kernel_rfl) ?_); conv => whnf)))
    exact ⟨rfl, Ext.refl _⟩
  obtain ⟨hC, hl, hw⟩ := word_cartan hic
  rw [lengthI_on hic]
  (repeat (first | (refine ⟨rfl, Ints.len (by assumption) ?_⟩; conv => whnf) | (refine ⟨rfl, Rows.len (by assumption) ?_⟩; conv => whnf) | (refine ⟨rfl, HLen.sl ?_⟩; conv => whnf) | (refine ⟨rfl, At.load (by assumption) ?_⟩; conv => whnf) | (refine HIf.yes ?_; conv => whnf) | (refine HIf.no ?_; conv => whnf) | (refine HIf.isT (by assumption) ?_; conv => whnf) | (refine HIf.isF (by assumption) ?_; conv => whnf) | (refine HIf.decT (by assumption) ?_; conv => whnf) | (refine HIf.decF (by assumption) ?_; conv => whnf) | (refine HIf.beqT (by assumption) ?_; conv => whnf) | (refine HIf.beqF (by assumption) ?_; conv => whnf) | (refine HIf.bneT (by assumption) ?_; conv => whnf) | (refine HIf.bneF (by assumption) ?_; conv => whnf) | (refine ⟨rfl, Ints.idxN (by assumption) (by omega) (fun p hp => ?_)⟩; conv => whnf) | (refine ⟨rfl, Rows.idxN (by assumption) (by omega) (fun p y hp hy => ?_)⟩; conv => whnf) | (refine And.intro (show Kd.isBool _ = true from rfl) ?_; conv => whnf) | (refine ⟨rfl, Ints.idx (by assumption) (by omega) (by omega) (fun p hp => ?_)⟩; conv => whnf) | (refine ⟨rfl, Rows.idx (by assumption) (by omega) (by omega) (fun p y hp hy => ?_)⟩; conv => whnf) | (refine HArith.fits (by omega) (by omega) ?_; conv => whnf) | (refine Or.inl (And.intro (show Region.lexB _ _ = true by kernel_rfl) ?_); conv => whnf)))
  refine (impl_lengthOf _ _ a0 _ a1 hx0 hx1 hC hw (by omega)).mono ?_
  rintro r h1 ⟨rfl, E⟩
  (conv => whnf)
  exact ⟨rfl, E⟩

theorem spec_LengthOf (h : Heap) (x0 : H0) (a0 : List (List Int)) (x1 : H0) (a1 : List Int) (hx0 : Rows h x0 a0) (hx1 : Ints h x1 a1) (s0 : a0.length ≤ 1048576 ∧ tot a0 ≤ 1048576) (s1 : a1.length ≤ 1048576) :
    HCalls dm Try.prog 30 [.s x0, .s x1] h (fun r h' => r = I (lengthI a0 a1) ∧ Ext h h') := by
  refine calls_of_hFun (m := 0) kd_ok mixed Try.func30 rfl (by kernel_rfl) rfl rfl (of_decide_eq_true rfl) ?_; unfold hFun; (conv => whnf)
  refine (spec_NormalForm _ _ a0 _ a1 hx0 hx1 s0 s1).mono ?_
  rintro r h1 ⟨y1, rfl, f1⟩
  (conv => whnf)
  cases hic : isWord a0 a1
  · rw [lengthI_off hic]
    (repeat (first | (refine ⟨rfl, Ints.len (by assumption) ?_⟩; conv => whnf) | (refine ⟨rfl, Rows.len (by assumption) ?_⟩; conv => whnf) | (refine ⟨rfl, HLen.sl ?_⟩; conv => whnf) | (refine ⟨rfl, At.load (by assumption) ?_⟩; conv => whnf) | (refine HIf.yes ?_; conv => whnf) | (refine HIf.no ?_; conv => whnf) | (refine HIf.isT (by assumption) ?_; conv => whnf) | (refine HIf.isF (by assumption) ?_; conv => whnf) | (refine HIf.decT (by assumption) ?_; conv => whnf) | (refine HIf.decF (by assumption) ?_; conv => whnf) | (refine HIf.beqT (by assumption) ?_; conv => whnf) | (refine HIf.beqF (by assumption) ?_; conv => whnf) | (refine HIf.bneT (by assumption) ?_; conv => whnf) | (refine HIf.bneF (by assumption) ?_; conv => whnf) | (refine ⟨rfl, Ints.idxN (by assumption) (by omega) (fun p hp => ?_)⟩; conv => whnf) | (refine ⟨rfl, Rows.idxN (by assumption) (by omega) (fun p y hp hy => ?_)⟩; conv => whnf) | (refine And.intro (show Kd.isBool _ = true from rfl) ?_; conv => whnf) | (refine ⟨rfl, Ints.idx (by assumption) (by omega) (by omega) (fun p hp => ?_)⟩; conv => whnf) | (refine ⟨rfl, Rows.idx (by assumption) (by omega) (by omega) (fun p y hp hy => ?_)⟩; conv => whnf) | (refine HArith.fits (by omega) (by omega) ?_; conv => whnf) | (refine Or.inl (And.intro (show Region.lexB _ _ = true by kernel_rfl) ?_); conv => whnf)))
    exact ⟨rfl, f1.1⟩
  rw [lengthI_on hic]
  rw [normalForm_on hic] at f1
  have hy := f1.ints
  (repeat (first | (refine ⟨rfl, Ints.len (by assumption) ?_⟩; conv => whnf) | (refine ⟨rfl, Rows.len (by assumption) ?_⟩; conv => whnf) | (refine ⟨rfl, HLen.sl ?_⟩; conv => whnf) | (refine ⟨rfl, At.load (by assumption) ?_⟩; conv => whnf) | (refine HIf.yes ?_; conv => whnf) | (refine HIf.no ?_; conv => whnf) | (refine HIf.isT (by assumption) ?_; conv => whnf) | (refine HIf.isF (by assumption) ?_; conv => whnf) | (refine HIf.decT (by assumption) ?_; conv => whnf) | (refine HIf.decF (by assumption) ?_; conv => whnf) | (refine HIf.beqT (by assumption) ?_; conv => whnf) | (refine HIf.beqF (by assumption) ?_; conv => whnf) | (refine HIf.bneT (by assumption) ?_; conv => whnf) | (refine HIf.bneF (by assumption) ?_; conv => whnf) | (refine ⟨rfl, Ints.idxN (by assumption) (by omega) (fun p hp => ?_)⟩; conv => whnf) | (refine ⟨rfl, Rows.idxN (by assumption) (by omega) (fun p y hp hy => ?_)⟩; conv => whnf) | (refine And.intro (show Kd.isBool _ = true from rfl) ?_; conv => whnf) | (refine ⟨rfl, Ints.idx (by assumption) (by omega) (by omega) (fun p hp => ?_)⟩; conv => whnf) | (refine ⟨rfl, Rows.idx (by assumption) (by omega) (by omega) (fun p y hp hy => ?_)⟩; conv => whnf) | (refine HArith.fits (by omega) (by omega) ?_; conv => whnf) | (refine Or.inl (And.intro (show Region.lexB _ _ = true by kernel_rfl) ?_); conv => whnf)))
  exact ⟨rfl, f1.1⟩

theorem impl_IsReduced (h : Heap) (x0 : H0) (a0 : List (List Int)) (x1 : H0) (a1 : List Int) (hx0 : Rows h x0 a0) (hx1 : Ints h x1 a1) (s0 : a0.length ≤ 1048576 ∧ tot a0 ≤ 1048576) (s1 : a1.length ≤ 1048576) :
    HCalls dm Try.prog 17 [.s x0, .s x1] h (fun r h' => r = B (isReduced a0 a1) ∧ Ext h h') := by
  refine calls_of_hFun (m := 0) kd_ok mixed Try.func17 rfl (by kernel_rfl) rfl rfl (of_decide_eq_true rfl) ?_; unfold hFun; (conv => whnf)
  refine (impl_IsWord _ _ _ a0 a1 hx0 hx1 (by omega) (by omega)).mono ?_
  rintro r h1 ⟨rfl, rfl⟩
  (conv => whnf)
  cases hic : isWord a0 a1
  · rw [isReduced_off hic]
    (repeat (first | (refine ⟨rfl, Ints.len (by assumption) ?_⟩; conv => whnf) | (refine ⟨rfl, Rows.len (by assumption) ?_⟩; conv => whnf) | (refine ⟨rfl, HLen.sl ?_⟩; conv => whnf) | (refine ⟨rfl, At.load (by assumption) ?_⟩; conv => whnf) | (refine HIf.yes ?_; conv => whnf) | (refine HIf.no ?_; conv => whnf) | (refine HIf.isT (by assumption) ?_; conv => whnf) | (refine HIf.isF (by assumption) ?_; conv => whnf) | (refine HIf.decT (by assumption) ?_; conv => whnf) | (refine HIf.decF (by assumption) ?_; conv => whnf) | (refine HIf.beqT (by assumption) ?_; conv => whnf) | (refine HIf.beqF (by assumption) ?_; conv => whnf) | (refine HIf.bneT (by assumption) ?_; conv => whnf) | (refine HIf.bneF (by assumption) ?_; conv => whnf) | (refine ⟨rfl, Ints.idxN (by assumption) (by omega) (fun p hp => ?_)⟩; conv => whnf) | (refine ⟨rfl, Rows.idxN (by assumption) (by omega) (fun p y hp hy => ?_)⟩; conv => whnf) | (refine And.intro (show Kd.isBool _ = true from rfl) ?_; conv => whnf) | (refine ⟨rfl, Ints.idx (by assumption) (by omega) (by omega) (fun p hp => ?_)⟩; conv => whnf) | (refine ⟨rfl, Rows.idx (by assumption) (by omega) (by omega) (fun p y hp hy => ?_)⟩; conv => whnf) | (refine HArith.fits (by omega) (by omega) ?_; conv => whnf) | (refine Or.inl (And.intro (show Region.lexB _ _ = true by kernel_rfl) ?_); conv => whnf)))
    exact ⟨rfl, Ext.refl _⟩
  obtain ⟨hC, hl, hw⟩ := word_cartan hic
  (repeat (first | (refine ⟨rfl, Ints.len (by assumption) ?_⟩; conv => whnf) | (refine ⟨rfl, Rows.len (by assumption) ?_⟩; conv => whnf) | (refine ⟨rfl, HLen.sl ?_⟩; conv => whnf) | (refine ⟨rfl, At.load (by assumption) ?_⟩; conv => whnf) | (refine HIf.yes ?_; conv => whnf) | (refine HIf.no ?_; conv => whnf) | (refine HIf.isT (by assumption) ?_; conv => whnf) | (refine HIf.isF (by assumption) ?_; conv => whnf) | (refine HIf.decT (by assumption) ?_; conv => whnf) | (refine HIf.decF (by assumption) ?_; conv => whnf) | (refine HIf.beqT (by assumption) ?_; conv => whnf) | (refine HIf.beqF (by assumption) ?_; conv => whnf) | (refine HIf.bneT (by assumption) ?_; conv => whnf) | (refine HIf.bneF (by assumption) ?_; conv => whnf) | (refine ⟨rfl, Ints.idxN (by assumption) (by omega) (fun p hp => ?_)⟩; conv => whnf) | (refine ⟨rfl, Rows.idxN (by assumption) (by omega) (fun p y hp hy => ?_)⟩; conv => whnf) | (refine And.intro (show Kd.isBool _ = true from rfl) ?_; conv => whnf) | (refine ⟨rfl, Ints.idx (by assumption) (by omega) (by omega) (fun p hp => ?_)⟩; conv => whnf) | (refine ⟨rfl, Rows.idx (by assumption) (by omega) (by omega) (fun p y hp hy => ?_)⟩; conv => whnf) | (refine HArith.fits (by omega) (by omega) ?_; conv => whnf) | (refine Or.inl (And.intro (show Region.lexB _ _ = true by kernel_rfl) ?_); conv => whnf)))
  refine (impl_lengthOf _ _ a0 _ a1 hx0 hx1 hC hw (by omega)).mono ?_
  rintro r h1 ⟨rfl, E⟩
  have hx11 := hx1.ext E
  (conv => whnf)
  (repeat (first | (refine ⟨rfl, Ints.len (by assumption) ?_⟩; conv => whnf) | (refine ⟨rfl, Rows.len (by assumption) ?_⟩; conv => whnf) | (refine ⟨rfl, HLen.sl ?_⟩; conv => whnf) | (refine ⟨rfl, At.load (by assumption) ?_⟩; conv => whnf) | (refine HIf.yes ?_; conv => whnf) | (refine HIf.no ?_; conv => whnf) | (refine HIf.isT (by assumption) ?_; conv => whnf) | (refine HIf.isF (by assumption) ?_; conv => whnf) | (refine HIf.decT (by assumption) ?_; conv => whnf) | (refine HIf.decF (by assumption) ?_; conv => whnf) | (refine HIf.beqT (by assumption) ?_; conv => whnf) | (refine HIf.beqF (by assumption) ?_; conv => whnf) | (refine HIf.bneT (by assumption) ?_; conv => whnf) | (refine HIf.bneF (by assumption) ?_; conv => whnf) | (refine ⟨rfl, Ints.idxN (by assumption) (by omega) (fun p hp => ?_)⟩; conv => whnf) | (refine ⟨rfl, Rows.idxN (by assumption) (by omega) (fun p y hp hy => ?_)⟩; conv => whnf) | (refine And.intro (show Kd.isBool _ = true from rfl) ?_; conv => whnf) | (refine ⟨rfl, Ints.idx (by assumption) (by omega) (by omega) (fun p hp => ?_)⟩; conv => whnf) | (refine ⟨rfl, Rows.idx (by assumption) (by omega) (by omega) (fun p y hp hy => ?_)⟩; conv => whnf) | (refine HArith.fits (by omega) (by omega) ?_; conv => whnf) | (refine Or.inl (And.intro (show Region.lexB _ _ = true by kernel_rfl) ?_); conv => whnf)))
  rw [← isReduced_len hic]
  exact ⟨rfl, E⟩

theorem spec_IsReduced (h : Heap) (x0 : H0) (a0 : List (List Int)) (x1 : H0) (a1 : List Int) (hx0 : Rows h x0 a0) (hx1 : Ints h x1 a1) (s0 : a0.length ≤ 1048576 ∧ tot a0 ≤ 1048576) (s1 : a1.length ≤ 1048576) :
    HCalls dm Try.prog 35 [.s x0, .s x1] h (fun r h' => r = B (isReduced a0 a1) ∧ Ext h h') := by
  refine calls_of_hFun (m := 0) kd_ok mixed Try.func35 rfl (by kernel_rfl) rfl rfl (of_decide_eq_true rfl) ?_; unfold hFun; (conv => whnf)
  refine (spec_LengthOf _ _ a0 _ a1 hx0 hx1 s0 s1).mono ?_
  rintro r h1 ⟨rfl, E⟩
  have hx11 := hx1.ext E
  (conv => whnf)
  (repeat (first | (refine ⟨rfl, Ints.len (by assumption) ?_⟩; conv => whnf) | (refine ⟨rfl, Rows.len (by assumption) ?_⟩; conv => whnf) | (refine ⟨rfl, HLen.sl ?_⟩; conv => whnf) | (refine ⟨rfl, At.load (by assumption) ?_⟩; conv => whnf) | (refine HIf.yes ?_; conv => whnf) | (refine HIf.no ?_; conv => whnf) | (refine HIf.isT (by assumption) ?_; conv => whnf) | (refine HIf.isF (by assumption) ?_; conv => whnf) | (refine HIf.decT (by assumption) ?_; conv => whnf) | (refine HIf.decF (by assumption) ?_; conv => whnf) | (refine HIf.beqT (by assumption) ?_; conv => whnf) | (refine HIf.beqF (by assumption) ?_; conv => whnf) | (refine HIf.bneT (by assumption) ?_; conv => whnf) | (refine HIf.bneF (by assumption) ?_; conv => whnf) | (refine ⟨rfl, Ints.idxN (by assumption) (by omega) (fun p hp => ?_)⟩; conv => whnf) | (refine ⟨rfl, Rows.idxN (by assumption) (by omega) (fun p y hp hy => ?_)⟩; conv => whnf) | (refine And.intro (show Kd.isBool _ = true from rfl) ?_; conv => whnf) | (refine ⟨rfl, Ints.idx (by assumption) (by omega) (by omega) (fun p hp => ?_)⟩; conv => whnf) | (refine ⟨rfl, Rows.idx (by assumption) (by omega) (by omega) (fun p y hp hy => ?_)⟩; conv => whnf) | (refine HArith.fits (by omega) (by omega) ?_; conv => whnf) | (refine Or.inl (And.intro (show Region.lexB _ _ = true by kernel_rfl) ?_); conv => whnf)))
  rw [← isReduced_of]
  exact ⟨rfl, E⟩

theorem impl_EqualWords (h : Heap) (x y : H0) (a b : List Int) (hx : Ints h x a) (hy : Ints h y b) (hal : a.length ≤ 2199023255552) :
    HCalls dm Try.prog 60 [.s x, .s y] h (fun r h' => r = B (decide (a = b)) ∧ h' = h) := by
  refine calls_of_hFun (m := 0) kd_ok mixed Try.func60 rfl (by kernel_rfl) rfl rfl (of_decide_eq_true rfl) ?_; unfold hFun; (conv => whnf)
  refine (lib_Equal _ _ _ _ _ hx hy hal).mono ?_
  rintro r h1 ⟨rfl, rfl⟩
  (conv => whnf)
  exact ⟨rfl, rfl⟩

end Go.Proofs.Ytjgnnjegaedinaa.Hx
