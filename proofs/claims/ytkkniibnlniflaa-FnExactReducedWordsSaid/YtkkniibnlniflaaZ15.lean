/-
  Contracts of commuting words, of the roots of a word's letters and of the first two letters that can be left out, of the program and of the reference.
-/
import Derived.Test.YtkkniibnlniflaaZ14
namespace Go.Proofs.Ytkkniibnlniflaa.Hx
open Go.RowKit
variable {dm : Bool}

theorem commute_on {c : List (List Int)} {a b : List Int} (h1 : isWord c a = true) (h2 : isWord c b = true) : decide (imageOf c (a ++ b) = imageOf c (b ++ a)) = commute c a b := by simp [commute, h1, h2]

def rootAt (c : List (List Int)) (w : List Int) (k : Nat) : List Int := actR c (w.take k) ((List.replicate c.length (0 : Int)).set (w.getD k 0).toNat 1)
def rootsTo (c : List (List Int)) (w : List Int) (k : Nat) : List (List Int) := (List.range k).map (rootAt c w)
def rootSeq (c : List (List Int)) (w : List Int) : List (List Int) := if isWord c w then rootsTo c w w.length else []

theorem rootsTo_length (c : List (List Int)) (w : List Int) (k : Nat) : (rootsTo c w k).length = k := by simp [rootsTo]
theorem rootsTo_none (c : List (List Int)) (w : List Int) : rootsTo c w 0 = [] := rfl
theorem rootsTo_succ (c : List (List Int)) (w : List Int) (k : Nat) : rootsTo c w (k + 1) = rootsTo c w k ++ [rootAt c w k] := by
  unfold rootsTo
  rw [List.range_succ, List.map_append]
  rfl
theorem rootAt_length (c : List (List Int)) (w : List Int) (k : Nat) : (rootAt c w k).length = c.length := by simp [rootAt, actR_length]
theorem tot_le (n : Nat) : ∀ L : List (List Int), (∀ l, l ∈ L → l.length ≤ n) → tot L ≤ n * L.length
  | [], _ => by simp [tot]
  | l :: L, h => by
    have h1 := h l (List.mem_cons_self ..)
    have h2 := tot_le n L (fun l hl => h l (List.mem_cons_of_mem _ hl))
    simp only [tot, List.length_cons, Nat.mul_add, Nat.mul_one]
    omega
theorem rootSeq_off {c : List (List Int)} {w : List Int} (h : isWord c w = false) : rootSeq c w = [] := by simp [rootSeq, h]
theorem rootSeq_on {c : List (List Int)} {w : List Int} (h : isWord c w = true) : rootSeq c w = rootsTo c w w.length := by simp [rootSeq, h]
theorem rootSeq_size (c : List (List Int)) (w : List Int) (hc : c.length ≤ 1048576) (hw : w.length ≤ 1048576) : (rootSeq c w).length ≤ 1099511627776 ∧ tot (rootSeq c w) ≤ 1099511627776 := by
  cases h : isWord c w
  · rw [rootSeq_off h]
    exact ⟨by simp, by simp [tot]⟩
  · rw [rootSeq_on h]
    have := tot_le c.length (rootsTo c w w.length) (fun l hl => by
      obtain ⟨k, _, rfl⟩ := List.mem_map.1 hl
      rw [rootAt_length]
      exact Nat.le_refl _)
    rw [rootsTo_length] at this ⊢
    have h2 : c.length * w.length ≤ 1048576 * 1048576 := Nat.mul_le_mul hc hw
    omega
theorem lettersOk_take {c : List (List Int)} {w : List Int} (h : lettersOk c w = true) (k : Nat) : lettersOk c (w.take k) = true := by
  refine List.all_eq_true.2 (fun x hx => List.all_eq_true.1 h x (List.mem_of_mem_take hx))
theorem isWord_take {c : List (List Int)} {w : List Int} (h : isWord c w = true) (k : Nat) : isWord c (w.take k) = true := by
  simp only [isWord, Bool.and_eq_true, decide_eq_true_eq] at h ⊢
  exact ⟨⟨h.1.1, by rw [List.length_take]; omega⟩, lettersOk_take h.2 k⟩
theorem letter_simple {c : List (List Int)} {w : List Int} (h : isWord c w = true) {k : Nat} (hk : k < w.length) : simpleRoot c (w.getD k 0) = (List.replicate c.length (0 : Int)).set (w.getD k 0).toNat 1 := by
  have h2 := h
  simp only [isWord, Bool.and_eq_true, decide_eq_true_eq] at h2
  refine simpleRoot_eq h2.1.1 ?_
  have := List.all_eq_true.1 h2.2 w[k] (List.getElem_mem hk)
  simpa [List.getD, hk] using this
theorem actOn_letter {c : List (List Int)} {w : List Int} (h : isWord c w = true) {k : Nat} (hk : k < w.length) : actOnRoot c (w.take k) (simpleRoot c (w.getD k 0)) = rootAt c w k := by
  rw [letter_simple h hk]
  simp [actOnRoot, isWord_take h, rootAt]

/-- The letters numbers j and i, left out. -/
def del2 (w : List Int) (i j : Nat) : List Int := del (del w j) i
def hit (c : List (List Int)) (w : List Int) (i j : Nat) : Bool := decide (imageOf c (del2 w i j) = imageOf c w)
def firstJ (c : List (List Int)) (w : List Int) (i : Nat) : Option Nat := (List.range w.length).find? fun j => decide (i < j) && hit c w i j
def firstI (c : List (List Int)) (w : List Int) : Option Nat := (List.range w.length).find? fun i => (firstJ c w i).isSome
def delPair (c : List (List Int)) (w : List Int) : Int × Int × Bool :=
  if isWord c w then
    match firstI c w with
    | some i => match firstJ c w i with
      | some j => (i, j, true)
      | none => (-1, -1, false)
    | none => (-1, -1, false)
  else (-1, -1, false)

theorem firstJ_at {c : List (List Int)} {w : List Int} {i j : Nat} (hj : j < w.length) (hij : i < j) (h : hit c w i j = true) (hb : ∀ k, i < k → k < j → hit c w i k = false) : firstJ c w i = some j := by
  unfold firstJ
  rw [List.find?_range_eq_some]
  refine ⟨by simp [hij, h], by simpa using hj, fun k hk => ?_⟩
  by_cases hik : i < k
  · simp [hb k hik hk]
  · simp [hik]
theorem firstJ_none {c : List (List Int)} {w : List Int} {i : Nat} (hb : ∀ k, i < k → k < w.length → hit c w i k = false) : firstJ c w i = none := by
  unfold firstJ
  rw [List.find?_range_eq_none]
  intro k hk
  by_cases hik : i < k
  · simp [hb k hik hk]
  · simp [hik]
theorem delPair_at {c : List (List Int)} {w : List Int} {i j : Nat} (hw : isWord c w = true) (hi : i < w.length) (hj : firstJ c w i = some j) (hb : ∀ k, k < i → firstJ c w k = none) : delPair c w = ((i : Int), (j : Int), true) := by
  have : firstI c w = some i := by
    unfold firstI
    rw [List.find?_range_eq_some]
    refine ⟨by simp [hj], by simpa using hi, fun k hk => by simp [hb k hk]⟩
  simp [delPair, hw, this, hj]
theorem delPair_none {c : List (List Int)} {w : List Int} (hw : isWord c w = true) (hb : ∀ k, k < w.length → firstJ c w k = none) : delPair c w = (-1, -1, false) := by
  have : firstI c w = none := by
    unfold firstI
    rw [List.find?_range_eq_none]
    intro k hk
    simp [hb k hk]
  simp [delPair, hw, this]
theorem delPair_off {c : List (List Int)} {w : List Int} (hw : isWord c w = false) : delPair c w = (-1, -1, false) := by simp [delPair, hw]
theorem lettersOk_del {c : List (List Int)} {w : List Int} (h : lettersOk c w = true) (n : Int) : lettersOk c (del w n) = true := by
  refine List.all_eq_true.2 (fun x hx => List.all_eq_true.1 h x ?_)
  unfold del at hx
  split at hx
  · exact List.mem_of_mem_eraseIdx hx
  · exact hx
theorem del2_len (w : List Int) (i j : Nat) : (del2 w i j).length ≤ w.length := Nat.le_trans (del_len _ _) (del_len _ _)

/-- A pair of results as a tuple. -/
abbrev T3 (p : Int × Int × Bool) : HV := .tup [.pl (.int .i64 p.1), .pl (.int .i64 p.2.1), .pl (.bool p.2.2)]


theorem impl_same (h : Heap) (x0 : H0) (a0 : List (List Int)) (x1 : H0) (a1 : List Int) (x2 : H0) (a2 : List Int) (hx0 : Rows h x0 a0) (hx1 : Ints h x1 a1) (hx2 : Ints h x2 a2) (hC : Cartan a0) (w1 : lettersOk a0 a1 = true) (w2 : lettersOk a0 a2 = true) (s1 : a1.length ≤ 1048576) (s2 : a2.length ≤ 1048576) :
    HCalls dm Try.prog 93 [.s x0, .s x1, .s x2] h (fun r h' => r = B (decide (imageOf a0 a1 = imageOf a0 a2)) ∧ Ext h h') := by
  have h4 := hC.le
  refine calls_of_hFun (m := 0) kd_ok mixed Try.func93 rfl (by kernel_rfl) rfl rfl (of_decide_eq_true rfl) ?_; unfold hFun; (conv => whnf)
  refine (impl_image _ _ a0 _ a1 hx0 hx1 hC w1 s1).mono ?_
  rintro r h1 ⟨y1, rfl, f1⟩
  (conv => whnf)
  refine (impl_image _ _ a0 _ a2 (hx0.ext f1.1) (hx2.ext f1.1) hC w2 s2).mono ?_
  rintro r h2 ⟨y2, rfl, f2⟩
  (conv => whnf)
  refine (lib_Equal _ _ _ _ _ (f1.ints.ext f2.1) f2.ints (by rw [imageOf_length]; omega)).mono ?_
  rintro r h3 ⟨rfl, rfl⟩
  (conv => whnf)
  exact ⟨rfl, f1.1.trans f2.1⟩

theorem impl_DoCommute (h : Heap) (x0 : H0) (a0 : List (List Int)) (x1 : H0) (a1 : List Int) (x2 : H0) (a2 : List Int) (hx0 : Rows h x0 a0) (hx1 : Ints h x1 a1) (hx2 : Ints h x2 a2) (s0 : a0.length ≤ 1048576 ∧ tot a0 ≤ 1048576) (s1 : a1.length ≤ 1048576) (s2 : a2.length ≤ 1048576) :
    HCalls dm Try.prog 52 [.s x0, .s x1, .s x2] h (fun r h' => r = B (commute a0 a1 a2) ∧ Ext h h') := by
  refine calls_of_hFun (m := 0) kd_ok mixed Try.func52 rfl (by kernel_rfl) rfl rfl (of_decide_eq_true rfl) ?_; unfold hFun; (conv => whnf)
  refine (impl_IsWord _ _ _ a0 a1 hx0 hx1 (by omega) (by omega)).mono ?_
  rintro r h1 ⟨rfl, rfl⟩
  (conv => whnf)
  cases hc1 : isWord a0 a1
  · (repeat (first | (refine ⟨rfl, Ints.len (by assumption) ?_⟩; conv => whnf) | (refine ⟨rfl, Rows.len (by assumption) ?_⟩; conv => whnf) | (refine ⟨rfl, HLen.sl ?_⟩; conv => whnf) | (refine ⟨rfl, At.load (by assumption) ?_⟩; conv => whnf) | (refine HIf.yes ?_; conv => whnf) | (refine HIf.no ?_; conv => whnf) | (refine HIf.isT (by assumption) ?_; conv => whnf) | (refine HIf.isF (by assumption) ?_; conv => whnf) | (refine HIf.decT (by assumption) ?_; conv => whnf) | (refine HIf.decF (by assumption) ?_; conv => whnf) | (refine HIf.beqT (by assumption) ?_; conv => whnf) | (refine HIf.beqF (by assumption) ?_; conv => whnf) | (refine HIf.bneT (by assumption) ?_; conv => whnf) | (refine HIf.bneF (by assumption) ?_; conv => whnf) | (refine ⟨rfl, Ints.idxN (by assumption) (by omega) (fun p hp => ?_)⟩; conv => whnf) | (refine ⟨rfl, Rows.idxN (by assumption) (by omega) (fun p y hp hy => ?_)⟩; conv => whnf) | (refine And.intro (show Kd.isBool _ = true from rfl) ?_; conv => whnf) | (refine ⟨rfl, Ints.idx (by assumption) (by omega) (by omega) (fun p hp => ?_)⟩; conv => whnf) | (refine ⟨rfl, Rows.idx (by assumption) (by omega) (by omega) (fun p y hp hy => ?_)⟩; conv => whnf) | (refine HArith.fits (by omega) (by omega) ?_; conv => whnf) | (refine Or.inl (And.intro (show Region.lexB _ _ = true by kernel_rfl) ?_); conv => whnf)))
    exact ⟨bEq (by simp [commute, hc1]), Ext.refl _⟩
  (repeat (first | (refine ⟨rfl, Ints.len (by assumption) ?_⟩; conv => whnf) | (refine ⟨rfl, Rows.len (by assumption) ?_⟩; conv => whnf) | (refine ⟨rfl, HLen.sl ?_⟩; conv => whnf) | (refine ⟨rfl, At.load (by assumption) ?_⟩; conv => whnf) | (refine HIf.yes ?_; conv => whnf) | (refine HIf.no ?_; conv => whnf) | (refine HIf.isT (by assumption) ?_; conv => whnf) | (refine HIf.isF (by assumption) ?_; conv => whnf) | (refine HIf.decT (by assumption) ?_; conv => whnf) | (refine HIf.decF (by assumption) ?_; conv => whnf) | (refine HIf.beqT (by assumption) ?_; conv => whnf) | (refine HIf.beqF (by assumption) ?_; conv => whnf) | (refine HIf.bneT (by assumption) ?_; conv => whnf) | (refine HIf.bneF (by assumption) ?_; conv => whnf) | (refine ⟨rfl, Ints.idxN (by assumption) (by omega) (fun p hp => ?_)⟩; conv => whnf) | (refine ⟨rfl, Rows.idxN (by assumption) (by omega) (fun p y hp hy => ?_)⟩; conv => whnf) | (refine And.intro (show Kd.isBool _ = true from rfl) ?_; conv => whnf) | (refine ⟨rfl, Ints.idx (by assumption) (by omega) (by omega) (fun p hp => ?_)⟩; conv => whnf) | (refine ⟨rfl, Rows.idx (by assumption) (by omega) (by omega) (fun p y hp hy => ?_)⟩; conv => whnf) | (refine HArith.fits (by omega) (by omega) ?_; conv => whnf) | (refine Or.inl (And.intro (show Region.lexB _ _ = true by kernel_rfl) ?_); conv => whnf)))
  refine (impl_IsWord _ _ _ a0 a2 hx0 hx2 (by omega) (by omega)).mono ?_
  rintro r h1 ⟨rfl, rfl⟩
  (conv => whnf)
  cases hc2 : isWord a0 a2
  · (repeat (first | (refine ⟨rfl, Ints.len (by assumption) ?_⟩; conv => whnf) | (refine ⟨rfl, Rows.len (by assumption) ?_⟩; conv => whnf) | (refine ⟨rfl, HLen.sl ?_⟩; conv => whnf) | (refine ⟨rfl, At.load (by assumption) ?_⟩; conv => whnf) | (refine HIf.yes ?_; conv => whnf) | (refine HIf.no ?_; conv => whnf) | (refine HIf.isT (by assumption) ?_; conv => whnf) | (refine HIf.isF (by assumption) ?_; conv => whnf) | (refine HIf.decT (by assumption) ?_; conv => whnf) | (refine HIf.decF (by assumption) ?_; conv => whnf) | (refine HIf.beqT (by assumption) ?_; conv => whnf) | (refine HIf.beqF (by assumption) ?_; conv => whnf) | (refine HIf.bneT (by assumption) ?_; conv => whnf) | (refine HIf.bneF (by assumption) ?_; conv => whnf) | (refine ⟨rfl, Ints.idxN (by assumption) (by omega) (fun p hp => ?_)⟩; conv => whnf) | (refine ⟨rfl, Rows.idxN (by assumption) (by omega) (fun p y hp hy => ?_)⟩; conv => whnf) | (refine And.intro (show Kd.isBool _ = true from rfl) ?_; conv => whnf) | (refine ⟨rfl, Ints.idx (by assumption) (by omega) (by omega) (fun p hp => ?_)⟩; conv => whnf) | (refine ⟨rfl, Rows.idx (by assumption) (by omega) (by omega) (fun p y hp hy => ?_)⟩; conv => whnf) | (refine HArith.fits (by omega) (by omega) ?_; conv => whnf) | (refine Or.inl (And.intro (show Region.lexB _ _ = true by kernel_rfl) ?_); conv => whnf)))
    exact ⟨bEq (by simp [commute, hc2]), Ext.refl _⟩
  have w1 := word_cartan hc1
  have w2 := word_cartan hc2
  (repeat (first | (refine ⟨rfl, Ints.len (by assumption) ?_⟩; conv => whnf) | (refine ⟨rfl, Rows.len (by assumption) ?_⟩; conv => whnf) | (refine ⟨rfl, HLen.sl ?_⟩; conv => whnf) | (refine ⟨rfl, At.load (by assumption) ?_⟩; conv => whnf) | (refine HIf.yes ?_; conv => whnf) | (refine HIf.no ?_; conv => whnf) | (refine HIf.isT (by assumption) ?_; conv => whnf) | (refine HIf.isF (by assumption) ?_; conv => whnf) | (refine HIf.decT (by assumption) ?_; conv => whnf) | (refine HIf.decF (by assumption) ?_; conv => whnf) | (refine HIf.beqT (by assumption) ?_; conv => whnf) | (refine HIf.beqF (by assumption) ?_; conv => whnf) | (refine HIf.bneT (by assumption) ?_; conv => whnf) | (refine HIf.bneF (by assumption) ?_; conv => whnf) | (refine ⟨rfl, Ints.idxN (by assumption) (by omega) (fun p hp => ?_)⟩; conv => whnf) | (refine ⟨rfl, Rows.idxN (by assumption) (by omega) (fun p y hp hy => ?_)⟩; conv => whnf) | (refine And.intro (show Kd.isBool _ = true from rfl) ?_; conv => whnf) | (refine ⟨rfl, Ints.idx (by assumption) (by omega) (by omega) (fun p hp => ?_)⟩; conv => whnf) | (refine ⟨rfl, Rows.idx (by assumption) (by omega) (by omega) (fun p y hp hy => ?_)⟩; conv => whnf) | (refine HArith.fits (by omega) (by omega) ?_; conv => whnf) | (refine Or.inl (And.intro (show Region.lexB _ _ = true by kernel_rfl) ?_); conv => whnf)))
  refine (impl_ConcatWords _ _ a1 _ a2 hx1 hx2 s1 s2).mono ?_
  rintro r h2 ⟨y1, rfl, E1, hy1⟩
  (conv => whnf)
  (repeat (first | (refine ⟨rfl, Ints.len (by assumption) ?_⟩; conv => whnf) | (refine ⟨rfl, Rows.len (by assumption) ?_⟩; conv => whnf) | (refine ⟨rfl, HLen.sl ?_⟩; conv => whnf) | (refine ⟨rfl, At.load (by assumption) ?_⟩; conv => whnf) | (refine HIf.yes ?_; conv => whnf) | (refine HIf.no ?_; conv => whnf) | (refine HIf.isT (by assumption) ?_; conv => whnf) | (refine HIf.isF (by assumption) ?_; conv => whnf) | (refine HIf.decT (by assumption) ?_; conv => whnf) | (refine HIf.decF (by assumption) ?_; conv => whnf) | (refine HIf.beqT (by assumption) ?_; conv => whnf) | (refine HIf.beqF (by assumption) ?_; conv => whnf) | (refine HIf.bneT (by assumption) ?_; conv => whnf) | (refine HIf.bneF (by assumption) ?_; conv => whnf) | (refine ⟨rfl, Ints.idxN (by assumption) (by omega) (fun p hp => ?_)⟩; conv => whnf) | (refine ⟨rfl, Rows.idxN (by assumption) (by omega) (fun p y hp hy => ?_)⟩; conv => whnf) | (refine And.intro (show Kd.isBool _ = true from rfl) ?_; conv => whnf) | (refine ⟨rfl, Ints.idx (by assumption) (by omega) (by omega) (fun p hp => ?_)⟩; conv => whnf) | (refine ⟨rfl, Rows.idx (by assumption) (by omega) (by omega) (fun p y hp hy => ?_)⟩; conv => whnf) | (refine HArith.fits (by omega) (by omega) ?_; conv => whnf) | (refine Or.inl (And.intro (show Region.lexB _ _ = true by kernel_rfl) ?_); conv => whnf)))
  refine (impl_ConcatWords _ _ a2 _ a1 (hx2.ext E1) (hx1.ext E1) s2 s1).mono ?_
  rintro r h3 ⟨y2, rfl, E2, hy2⟩
  (conv => whnf)
  (repeat (first | (refine ⟨rfl, Ints.len (by assumption) ?_⟩; conv => whnf) | (refine ⟨rfl, Rows.len (by assumption) ?_⟩; conv => whnf) | (refine ⟨rfl, HLen.sl ?_⟩; conv => whnf) | (refine ⟨rfl, At.load (by assumption) ?_⟩; conv => whnf) | (refine HIf.yes ?_; conv => whnf) | (refine HIf.no ?_; conv => whnf) | (refine HIf.isT (by assumption) ?_; conv => whnf) | (refine HIf.isF (by assumption) ?_; conv => whnf) | (refine HIf.decT (by assumption) ?_; conv => whnf) | (refine HIf.decF (by assumption) ?_; conv => whnf) | (refine HIf.beqT (by assumption) ?_; conv => whnf) | (refine HIf.beqF (by assumption) ?_; conv => whnf) | (refine HIf.bneT (by assumption) ?_; conv => whnf) | (refine HIf.bneF (by assumption) ?_; conv => whnf) | (refine ⟨rfl, Ints.idxN (by assumption) (by omega) (fun p hp => ?_)⟩; conv => whnf) | (refine ⟨rfl, Rows.idxN (by assumption) (by omega) (fun p y hp hy => ?_)⟩; conv => whnf) | (refine And.intro (show Kd.isBool _ = true from rfl) ?_; conv => whnf) | (refine ⟨rfl, Ints.idx (by assumption) (by omega) (by omega) (fun p hp => ?_)⟩; conv => whnf) | (refine ⟨rfl, Rows.idx (by assumption) (by omega) (by omega) (fun p y hp hy => ?_)⟩; conv => whnf) | (refine HArith.fits (by omega) (by omega) ?_; conv => whnf) | (refine Or.inl (And.intro (show Region.lexB _ _ = true by kernel_rfl) ?_); conv => whnf)))
  refine (impl_same _ _ a0 _ _ _ _ ((hx0.ext E1).ext E2) (hy1.ext E2) hy2 w1.1 (by rw [lettersOk_app, w1.2.2, w2.2.2]; rfl) (by rw [lettersOk_app, w1.2.2, w2.2.2]; rfl) (by simp; omega) (by simp; omega)).mono ?_
  rintro r h4 ⟨rfl, E3⟩
  (conv => whnf)
  (repeat (first | (refine ⟨rfl, Ints.len (by assumption) ?_⟩; conv => whnf) | (refine ⟨rfl, Rows.len (by assumption) ?_⟩; conv => whnf) | (refine ⟨rfl, HLen.sl ?_⟩; conv => whnf) | (refine ⟨rfl, At.load (by assumption) ?_⟩; conv => whnf) | (refine HIf.yes ?_; conv => whnf) | (refine HIf.no ?_; conv => whnf) | (refine HIf.isT (by assumption) ?_; conv => whnf) | (refine HIf.isF (by assumption) ?_; conv => whnf) | (refine HIf.decT (by assumption) ?_; conv => whnf) | (refine HIf.decF (by assumption) ?_; conv => whnf) | (refine HIf.beqT (by assumption) ?_; conv => whnf) | (refine HIf.beqF (by assumption) ?_; conv => whnf) | (refine HIf.bneT (by assumption) ?_; conv => whnf) | (refine HIf.bneF (by assumption) ?_; conv => whnf) | (refine ⟨rfl, Ints.idxN (by assumption) (by omega) (fun p hp => ?_)⟩; conv => whnf) | (refine ⟨rfl, Rows.idxN (by assumption) (by omega) (fun p y hp hy => ?_)⟩; conv => whnf) | (refine And.intro (show Kd.isBool _ = true from rfl) ?_; conv => whnf) | (refine ⟨rfl, Ints.idx (by assumption) (by omega) (by omega) (fun p hp => ?_)⟩; conv => whnf) | (refine ⟨rfl, Rows.idx (by assumption) (by omega) (by omega) (fun p y hp hy => ?_)⟩; conv => whnf) | (refine HArith.fits (by omega) (by omega) ?_; conv => whnf) | (refine Or.inl (And.intro (show Region.lexB _ _ = true by kernel_rfl) ?_); conv => whnf)))
  exact ⟨bEq (commute_on hc1 hc2).symm, (E1.trans E2).trans E3⟩

theorem spec_DoCommute (h : Heap) (x0 : H0) (a0 : List (List Int)) (x1 : H0) (a1 : List Int) (x2 : H0) (a2 : List Int) (hx0 : Rows h x0 a0) (hx1 : Ints h x1 a1) (hx2 : Ints h x2 a2) (s0 : a0.length ≤ 1048576 ∧ tot a0 ≤ 1048576) (s1 : a1.length ≤ 1048576) (s2 : a2.length ≤ 1048576) :
    HCalls dm Try.prog 66 [.s x0, .s x1, .s x2] h (fun r h' => r = B (commute a0 a1 a2) ∧ Ext h h') := by
  refine calls_of_hFun (m := 0) kd_ok mixed Try.func66 rfl (by kernel_rfl) rfl rfl (of_decide_eq_true rfl) ?_; unfold hFun; (conv => whnf)
  refine (spec_IsWord _ _ _ a0 a1 hx0 hx1 (by omega) (by omega)).mono ?_
  rintro r h1 ⟨rfl, rfl⟩
  (conv => whnf)
  cases hc1 : isWord a0 a1
  · (repeat (first | (refine ⟨rfl, Ints.len (by assumption) ?_⟩; conv => whnf) | (refine ⟨rfl, Rows.len (by assumption) ?_⟩; conv => whnf) | (refine ⟨rfl, HLen.sl ?_⟩; conv => whnf) | (refine ⟨rfl, At.load (by assumption) ?_⟩; conv => whnf) | (refine HIf.yes ?_; conv => whnf) | (refine HIf.no ?_; conv => whnf) | (refine HIf.isT (by assumption) ?_; conv => whnf) | (refine HIf.isF (by assumption) ?_; conv => whnf) | (refine HIf.decT (by assumption) ?_; conv => whnf) | (refine HIf.decF (by assumption) ?_; conv => whnf) | (refine HIf.beqT (by assumption) ?_; conv => whnf) | (refine HIf.beqF (by assumption) ?_; conv => whnf) | (refine HIf.bneT (by assumption) ?_; conv => whnf) | (refine HIf.bneF (by assumption) ?_; conv => whnf) | (refine ⟨rfl, Ints.idxN (by assumption) (by omega) (fun p hp => ?_)⟩; conv => whnf) | (refine ⟨rfl, Rows.idxN (by assumption) (by omega) (fun p y hp hy => ?_)⟩; conv => whnf) | (refine And.intro (show Kd.isBool _ = true from rfl) ?_; conv => whnf) | (refine ⟨rfl, Ints.idx (by assumption) (by omega) (by omega) (fun p hp => ?_)⟩; conv => whnf) | (refine ⟨rfl, Rows.idx (by assumption) (by omega) (by omega) (fun p y hp hy => ?_)⟩; conv => whnf) | (refine HArith.fits (by omega) (by omega) ?_; conv => whnf) | (refine Or.inl (And.intro (show Region.lexB _ _ = true by kernel_rfl) ?_); conv => whnf)))
    exact ⟨bEq (by simp [commute, hc1]), Ext.refl _⟩
  (repeat (first | (refine ⟨rfl, Ints.len (by assumption) ?_⟩; conv => whnf) | (refine ⟨rfl, Rows.len (by assumption) ?_⟩; conv => whnf) | (refine ⟨rfl, HLen.sl ?_⟩; conv => whnf) | (refine ⟨rfl, At.load (by assumption) ?_⟩; conv => whnf) | (refine HIf.yes ?_; conv => whnf) | (refine HIf.no ?_; conv => whnf) | (refine HIf.isT (by assumption) ?_; conv => whnf) | (refine HIf.isF (by assumption) ?_; conv => whnf) | (refine HIf.decT (by assumption) ?_; conv => whnf) | (refine HIf.decF (by assumption) ?_; conv => whnf) | (refine HIf.beqT (by assumption) ?_; conv => whnf) | (refine HIf.beqF (by assumption) ?_; conv => whnf) | (refine HIf.bneT (by assumption) ?_; conv => whnf) | (refine HIf.bneF (by assumption) ?_; conv => whnf) | (refine ⟨rfl, Ints.idxN (by assumption) (by omega) (fun p hp => ?_)⟩; conv => whnf) | (refine ⟨rfl, Rows.idxN (by assumption) (by omega) (fun p y hp hy => ?_)⟩; conv => whnf) | (refine And.intro (show Kd.isBool _ = true from rfl) ?_; conv => whnf) | (refine ⟨rfl, Ints.idx (by assumption) (by omega) (by omega) (fun p hp => ?_)⟩; conv => whnf) | (refine ⟨rfl, Rows.idx (by assumption) (by omega) (by omega) (fun p y hp hy => ?_)⟩; conv => whnf) | (refine HArith.fits (by omega) (by omega) ?_; conv => whnf) | (refine Or.inl (And.intro (show Region.lexB _ _ = true by kernel_rfl) ?_); conv => whnf)))
  refine (spec_IsWord _ _ _ a0 a2 hx0 hx2 (by omega) (by omega)).mono ?_
  rintro r h1 ⟨rfl, rfl⟩
  (conv => whnf)
  cases hc2 : isWord a0 a2
  · (repeat (first | (refine ⟨rfl, Ints.len (by assumption) ?_⟩; conv => whnf) | (refine ⟨rfl, Rows.len (by assumption) ?_⟩; conv => whnf) | (refine ⟨rfl, HLen.sl ?_⟩; conv => whnf) | (refine ⟨rfl, At.load (by assumption) ?_⟩; conv => whnf) | (refine HIf.yes ?_; conv => whnf) | (refine HIf.no ?_; conv => whnf) | (refine HIf.isT (by assumption) ?_; conv => whnf) | (refine HIf.isF (by assumption) ?_; conv => whnf) | (refine HIf.decT (by assumption) ?_; conv => whnf) | (refine HIf.decF (by assumption) ?_; conv => whnf) | (refine HIf.beqT (by assumption) ?_; conv => whnf) | (refine HIf.beqF (by assumption) ?_; conv => whnf) | (refine HIf.bneT (by assumption) ?_; conv => whnf) | (refine HIf.bneF (by assumption) ?_; conv => whnf) | (refine ⟨rfl, Ints.idxN (by assumption) (by omega) (fun p hp => ?_)⟩; conv => whnf) | (refine ⟨rfl, Rows.idxN (by assumption) (by omega) (fun p y hp hy => ?_)⟩; conv => whnf) | (refine And.intro (show Kd.isBool _ = true from rfl) ?_; conv => whnf) | (refine ⟨rfl, Ints.idx (by assumption) (by omega) (by omega) (fun p hp => ?_)⟩; conv => whnf) | (refine ⟨rfl, Rows.idx (by assumption) (by omega) (by omega) (fun p y hp hy => ?_)⟩; conv => whnf) | (refine HArith.fits (by omega) (by omega) ?_; conv => whnf) | (refine Or.inl (And.intro (show Region.lexB _ _ = true by kernel_rfl) ?_); conv => whnf)))
    exact ⟨bEq (by simp [commute, hc2]), Ext.refl _⟩
  have w1 := word_cartan hc1
  have w2 := word_cartan hc2
  have h4 := w1.1.le
  have hic := (isCartan_iff a0).2 w1.1
  (repeat (first | (refine ⟨rfl, Ints.len (by assumption) ?_⟩; conv => whnf) | (refine ⟨rfl, Rows.len (by assumption) ?_⟩; conv => whnf) | (refine ⟨rfl, HLen.sl ?_⟩; conv => whnf) | (refine ⟨rfl, At.load (by assumption) ?_⟩; conv => whnf) | (refine HIf.yes ?_; conv => whnf) | (refine HIf.no ?_; conv => whnf) | (refine HIf.isT (by assumption) ?_; conv => whnf) | (refine HIf.isF (by assumption) ?_; conv => whnf) | (refine HIf.decT (by assumption) ?_; conv => whnf) | (refine HIf.decF (by assumption) ?_; conv => whnf) | (refine HIf.beqT (by assumption) ?_; conv => whnf) | (refine HIf.beqF (by assumption) ?_; conv => whnf) | (refine HIf.bneT (by assumption) ?_; conv => whnf) | (refine HIf.bneF (by assumption) ?_; conv => whnf) | (refine ⟨rfl, Ints.idxN (by assumption) (by omega) (fun p hp => ?_)⟩; conv => whnf) | (refine ⟨rfl, Rows.idxN (by assumption) (by omega) (fun p y hp hy => ?_)⟩; conv => whnf) | (refine And.intro (show Kd.isBool _ = true from rfl) ?_; conv => whnf) | (refine ⟨rfl, Ints.idx (by assumption) (by omega) (by omega) (fun p hp => ?_)⟩; conv => whnf) | (refine ⟨rfl, Rows.idx (by assumption) (by omega) (by omega) (fun p y hp hy => ?_)⟩; conv => whnf) | (refine HArith.fits (by omega) (by omega) ?_; conv => whnf) | (refine Or.inl (And.intro (show Region.lexB _ _ = true by kernel_rfl) ?_); conv => whnf)))
  refine (spec_ConcatWords _ _ a1 _ a2 hx1 hx2 s1 s2).mono ?_
  rintro r h2 ⟨y1, rfl, f1⟩
  (conv => whnf)
  (repeat (first | (refine ⟨rfl, Ints.len (by assumption) ?_⟩; conv => whnf) | (refine ⟨rfl, Rows.len (by assumption) ?_⟩; conv => whnf) | (refine ⟨rfl, HLen.sl ?_⟩; conv => whnf) | (refine ⟨rfl, At.load (by assumption) ?_⟩; conv => whnf) | (refine HIf.yes ?_; conv => whnf) | (refine HIf.no ?_; conv => whnf) | (refine HIf.isT (by assumption) ?_; conv => whnf) | (refine HIf.isF (by assumption) ?_; conv => whnf) | (refine HIf.decT (by assumption) ?_; conv => whnf) | (refine HIf.decF (by assumption) ?_; conv => whnf) | (refine HIf.beqT (by assumption) ?_; conv => whnf) | (refine HIf.beqF (by assumption) ?_; conv => whnf) | (refine HIf.bneT (by assumption) ?_; conv => whnf) | (refine HIf.bneF (by assumption) ?_; conv => whnf) | (refine ⟨rfl, Ints.idxN (by assumption) (by omega) (fun p hp => ?_)⟩; conv => whnf) | (refine ⟨rfl, Rows.idxN (by assumption) (by omega) (fun p y hp hy => ?_)⟩; conv => whnf) | (refine And.intro (show Kd.isBool _ = true from rfl) ?_; conv => whnf) | (refine ⟨rfl, Ints.idx (by assumption) (by omega) (by omega) (fun p hp => ?_)⟩; conv => whnf) | (refine ⟨rfl, Rows.idx (by assumption) (by omega) (by omega) (fun p y hp hy => ?_)⟩; conv => whnf) | (refine HArith.fits (by omega) (by omega) ?_; conv => whnf) | (refine Or.inl (And.intro (show Region.lexB _ _ = true by kernel_rfl) ?_); conv => whnf)))
  refine (spec_l8Image _ _ a0 _ _ (hx0.ext f1.1) f1.ints hic (by rw [lettersOk_app, w1.2.2, w2.2.2]; rfl) (by simp; omega)).mono ?_
  rintro r h3 ⟨y2, rfl, f2⟩
  have E2 := f1.1.trans f2.1
  (conv => whnf)
  (repeat (first | (refine ⟨rfl, Ints.len (by assumption) ?_⟩; conv => whnf) | (refine ⟨rfl, Rows.len (by assumption) ?_⟩; conv => whnf) | (refine ⟨rfl, HLen.sl ?_⟩; conv => whnf) | (refine ⟨rfl, At.load (by assumption) ?_⟩; conv => whnf) | (refine HIf.yes ?_; conv => whnf) | (refine HIf.no ?_; conv => whnf) | (refine HIf.isT (by assumption) ?_; conv => whnf) | (refine HIf.isF (by assumption) ?_; conv => whnf) | (refine HIf.decT (by assumption) ?_; conv => whnf) | (refine HIf.decF (by assumption) ?_; conv => whnf) | (refine HIf.beqT (by assumption) ?_; conv => whnf) | (refine HIf.beqF (by assumption) ?_; conv => whnf) | (refine HIf.bneT (by assumption) ?_; conv => whnf) | (refine HIf.bneF (by assumption) ?_; conv => whnf) | (refine ⟨rfl, Ints.idxN (by assumption) (by omega) (fun p hp => ?_)⟩; conv => whnf) | (refine ⟨rfl, Rows.idxN (by assumption) (by omega) (fun p y hp hy => ?_)⟩; conv => whnf) | (refine And.intro (show Kd.isBool _ = true from rfl) ?_; conv => whnf) | (refine ⟨rfl, Ints.idx (by assumption) (by omega) (by omega) (fun p hp => ?_)⟩; conv => whnf) | (refine ⟨rfl, Rows.idx (by assumption) (by omega) (by omega) (fun p y hp hy => ?_)⟩; conv => whnf) | (refine HArith.fits (by omega) (by omega) ?_; conv => whnf) | (refine Or.inl (And.intro (show Region.lexB _ _ = true by kernel_rfl) ?_); conv => whnf)))
  refine (spec_ConcatWords _ _ a2 _ a1 (hx2.ext E2) (hx1.ext E2) s2 s1).mono ?_
  rintro r h5 ⟨y3, rfl, f3⟩
  have E3 := E2.trans f3.1
  (conv => whnf)
  (repeat (first | (refine ⟨rfl, Ints.len (by assumption) ?_⟩; conv => whnf) | (refine ⟨rfl, Rows.len (by assumption) ?_⟩; conv => whnf) | (refine ⟨rfl, HLen.sl ?_⟩; conv => whnf) | (refine ⟨rfl, At.load (by assumption) ?_⟩; conv => whnf) | (refine HIf.yes ?_; conv => whnf) | (refine HIf.no ?_; conv => whnf) | (refine HIf.isT (by assumption) ?_; conv => whnf) | (refine HIf.isF (by assumption) ?_; conv => whnf) | (refine HIf.decT (by assumption) ?_; conv => whnf) | (refine HIf.decF (by assumption) ?_; conv => whnf) | (refine HIf.beqT (by assumption) ?_; conv => whnf) | (refine HIf.beqF (by assumption) ?_; conv => whnf) | (refine HIf.bneT (by assumption) ?_; conv => whnf) | (refine HIf.bneF (by assumption) ?_; conv => whnf) | (refine ⟨rfl, Ints.idxN (by assumption) (by omega) (fun p hp => ?_)⟩; conv => whnf) | (refine ⟨rfl, Rows.idxN (by assumption) (by omega) (fun p y hp hy => ?_)⟩; conv => whnf) | (refine And.intro (show Kd.isBool _ = true from rfl) ?_; conv => whnf) | (refine ⟨rfl, Ints.idx (by assumption) (by omega) (by omega) (fun p hp => ?_)⟩; conv => whnf) | (refine ⟨rfl, Rows.idx (by assumption) (by omega) (by omega) (fun p y hp hy => ?_)⟩; conv => whnf) | (refine HArith.fits (by omega) (by omega) ?_; conv => whnf) | (refine Or.inl (And.intro (show Region.lexB _ _ = true by kernel_rfl) ?_); conv => whnf)))
  refine (spec_l8Image _ _ a0 _ _ (hx0.ext E3) f3.ints hic (by rw [lettersOk_app, w1.2.2, w2.2.2]; rfl) (by simp; omega)).mono ?_
  rintro r h6 ⟨y4, rfl, f4⟩
  (conv => whnf)
  (repeat (first | (refine ⟨rfl, Ints.len (by assumption) ?_⟩; conv => whnf) | (refine ⟨rfl, Rows.len (by assumption) ?_⟩; conv => whnf) | (refine ⟨rfl, HLen.sl ?_⟩; conv => whnf) | (refine ⟨rfl, At.load (by assumption) ?_⟩; conv => whnf) | (refine HIf.yes ?_; conv => whnf) | (refine HIf.no ?_; conv => whnf) | (refine HIf.isT (by assumption) ?_; conv => whnf) | (refine HIf.isF (by assumption) ?_; conv => whnf) | (refine HIf.decT (by assumption) ?_; conv => whnf) | (refine HIf.decF (by assumption) ?_; conv => whnf) | (refine HIf.beqT (by assumption) ?_; conv => whnf) | (refine HIf.beqF (by assumption) ?_; conv => whnf) | (refine HIf.bneT (by assumption) ?_; conv => whnf) | (refine HIf.bneF (by assumption) ?_; conv => whnf) | (refine ⟨rfl, Ints.idxN (by assumption) (by omega) (fun p hp => ?_)⟩; conv => whnf) | (refine ⟨rfl, Rows.idxN (by assumption) (by omega) (fun p y hp hy => ?_)⟩; conv => whnf) | (refine And.intro (show Kd.isBool _ = true from rfl) ?_; conv => whnf) | (refine ⟨rfl, Ints.idx (by assumption) (by omega) (by omega) (fun p hp => ?_)⟩; conv => whnf) | (refine ⟨rfl, Rows.idx (by assumption) (by omega) (by omega) (fun p y hp hy => ?_)⟩; conv => whnf) | (refine HArith.fits (by omega) (by omega) ?_; conv => whnf) | (refine Or.inl (And.intro (show Region.lexB _ _ = true by kernel_rfl) ?_); conv => whnf)))
  refine (spec_EqualWords _ _ _ _ _ ((f2.ints.ext f3.1).ext f4.1) f4.ints (by rw [imageOf_length]; omega)).mono ?_
  rintro r h7 ⟨rfl, rfl⟩
  (conv => whnf)
  (repeat (first | (refine ⟨rfl, Ints.len (by assumption) ?_⟩; conv => whnf) | (refine ⟨rfl, Rows.len (by assumption) ?_⟩; conv => whnf) | (refine ⟨rfl, HLen.sl ?_⟩; conv => whnf) | (refine ⟨rfl, At.load (by assumption) ?_⟩; conv => whnf) | (refine HIf.yes ?_; conv => whnf) | (refine HIf.no ?_; conv => whnf) | (refine HIf.isT (by assumption) ?_; conv => whnf) | (refine HIf.isF (by assumption) ?_; conv => whnf) | (refine HIf.decT (by assumption) ?_; conv => whnf) | (refine HIf.decF (by assumption) ?_; conv => whnf) | (refine HIf.beqT (by assumption) ?_; conv => whnf) | (refine HIf.beqF (by assumption) ?_; conv => whnf) | (refine HIf.bneT (by assumption) ?_; conv => whnf) | (refine HIf.bneF (by assumption) ?_; conv => whnf) | (refine ⟨rfl, Ints.idxN (by assumption) (by omega) (fun p hp => ?_)⟩; conv => whnf) | (refine ⟨rfl, Rows.idxN (by assumption) (by omega) (fun p y hp hy => ?_)⟩; conv => whnf) | (refine And.intro (show Kd.isBool _ = true from rfl) ?_; conv => whnf) | (refine ⟨rfl, Ints.idx (by assumption) (by omega) (by omega) (fun p hp => ?_)⟩; conv => whnf) | (refine ⟨rfl, Rows.idx (by assumption) (by omega) (by omega) (fun p y hp hy => ?_)⟩; conv => whnf) | (refine HArith.fits (by omega) (by omega) ?_; conv => whnf) | (refine Or.inl (And.intro (show Region.lexB _ _ = true by kernel_rfl) ?_); conv => whnf)))
  exact ⟨bEq (commute_on hc1 hc2).symm, E3.trans f4.1⟩

theorem impl_sequence (h : Heap) (x0 : H0) (a0 : List (List Int)) (x1 : H0) (a1 : List Int) (hx0 : Rows h x0 a0) (hx1 : Ints h x1 a1) (hC : Cartan a0) (hw : lettersOk a0 a1 = true) (s1 : a1.length ≤ 1048576) :
    HCalls dm Try.prog 73 [.s x0, .s x1] h (fun r h' => ∃ y, r = .s y ∧ Ext h h' ∧ OwnM h.length h'.length h' y (rootsTo a0 a1 a1.length)) := by
  have h4 := hC.le
  have E0 := Ext.push h [Row.own []]
  have hx10 := hx1.ext E0
  refine calls_of_hFun (m := 0) kd_ok mixed Try.func73 rfl (by kernel_rfl) rfl rfl (of_decide_eq_true rfl) ?_; unfold hFun; (conv => whnf)
  refine HLit.empty ?_
  (conv => whnf)
  refine ⟨rfl, hx10.len ?_⟩
  (conv => whnf)
  refine HLoop.intro [11, 5] [12, 13, 14, 15, 6, 7, 16, 17, 18, 19, 20, 21, 22, 23, 24, 25, 26, 27, 5, 28, 11] (by kernel_rfl) (by kernel_rfl) (fun vs h' => ∃ (k : Nat) (z : H0), vs = [I k, .s z] ∧ k ≤ a1.length ∧ Ext h h' ∧ OwnM h.length h'.length h' z (rootsTo a0 a1 k)) (fun vs _ => a1.length - natAt vs 0) ⟨0, _, rfl, by omega, E0, OwnM.none h⟩ ?_
  rintro vs h' ⟨k, z, rfl, hk, E, O⟩
  have hx0 := hx0.ext E
  have hx1 := hx1.ext E
  have hrl := rootsTo_length a0 a1 k
  (conv => whnf)
  refine HIf.dec (fun hlt => ?_) (fun hge => ?_)
  · obtain ⟨i, hi, hil⟩ := letter hw (k := k) (by omega)
    (conv => whnf)
    refine ⟨rfl, Ints.idxN hx1 (by omega) (fun p hp => ?_)⟩
    rw [hi] at hp
    (conv => whnf)
    refine ⟨rfl, hp.load ?_⟩
    (conv => whnf)
    refine Or.inr (Or.inr (Or.inl (Exists.intro 11 (Exists.intro [0, 1, 2, 3, 4, 5, 6, 7] (Exists.intro [8, 9, 10, 11, 12] (And.intro (show heldOk _ _ _ _ = true by kernel_rfl) ?_)))))); (conv => whnf)
    refine ⟨rfl, Ints.take hx1 k (by omega) (fun y1 hy1 => ?_)⟩
    (conv => whnf)
    refine ⟨rfl, hx0.len ?_⟩
    (conv => whnf)
    refine HCallF.fresh (impl_simple _ a0.length (i : Int) (by omega) (by omega) (by omega)) (fun h2 y2 f2 => ?_)
    (conv => whnf)
    refine HCallF.fresh (impl_actedRoot _ _ a0 _ _ _ _ (hx0.ext f2.1).frz (hy1.ext f2.1).frz f2.ints.frz hC (lettersOk_take hw k) (by simp) (by simp; omega)) (fun h3 y3 f3 => ?_)
    have hz := Fresh.inner f2.1 f3
    have ez : rootAt a0 a1 k = actR a0 (a1.take k) ((List.replicate a0.length (0 : Int)).set (i : Int).toNat 1) := by rw [rootAt, hi]
    rw [← ez] at hz
    (conv => whnf)
    refine HLit.row hz.2.one ?_
    (conv => whnf)
    refine ⟨rfl, rfl, HApp.snocM E O hz.1 hz.2 (by omega) (fun h4 y4 E4 O4 => ?_)⟩
    rw [← rootsTo_succ] at O4
    (conv => whnf)
    refine HArith.fits (by omega) (by omega) ?_
    (conv => whnf)
    exact ⟨⟨k + 1, y4, rfl, by omega, E4, O4⟩, by show a1.length - (k + 1) < a1.length - k; omega⟩
  · have e : k = a1.length := by omega
    subst e
    (conv => whnf)
    exact ⟨_, rfl, E, O⟩

theorem spec_RootSequence (h : Heap) (x0 : H0) (a0 : List (List Int)) (x1 : H0) (a1 : List Int) (hx0 : Rows h x0 a0) (hx1 : Ints h x1 a1) (s0 : a0.length ≤ 1048576 ∧ tot a0 ≤ 1048576) (s1 : a1.length ≤ 1048576) :
    HCalls dm Try.prog 70 [.s x0, .s x1] h (fun r h' => ∃ y, r = .s y ∧ Ext h h' ∧ OwnM h.length h'.length h' y (rootSeq a0 a1)) := by
  have E0 := Ext.push h [Row.own []]
  cases hic : isWord a0 a1
  · rw [rootSeq_off hic]
    refine calls_of_hFun (m := 0) kd_ok mixed Try.func70 rfl (by kernel_rfl) rfl rfl (of_decide_eq_true rfl) ?_; unfold hFun; (conv => whnf)
    refine HLit.empty ?_
    (conv => whnf)
    refine HLoop.intro [6, 5] [9, 10, 11, 12, 13, 14, 15, 16, 17, 20, 21, 22, 23, 24, 25, 26, 27, 28, 29, 30, 7, 31, 32, 33, 34, 5, 18, 19, 6] (by kernel_rfl) (by kernel_rfl) (fun vs h' => vs = [I 0, .s (.sl h.length 0 0)] ∧ h' = h ++ [.own []]) (fun vs _ => 0) ⟨rfl, rfl⟩ ?_
    rintro vs h' ⟨rfl, rfl⟩
    have hx0 := hx0.ext E0
    have hx1 := hx1.ext E0
    (conv => whnf)
    refine ⟨rfl, hx1.len ?_⟩
    (conv => whnf)
    refine HIf.dec (fun hlt => ?_) (fun hge => ?_)
    · (conv => whnf)
      (repeat (first | (refine ⟨rfl, Ints.len (by assumption) ?_⟩; conv => whnf) | (refine ⟨rfl, Rows.len (by assumption) ?_⟩; conv => whnf) | (refine ⟨rfl, HLen.sl ?_⟩; conv => whnf) | (refine ⟨rfl, At.load (by assumption) ?_⟩; conv => whnf) | (refine HIf.yes ?_; conv => whnf) | (refine HIf.no ?_; conv => whnf) | (refine HIf.isT (by assumption) ?_; conv => whnf) | (refine HIf.isF (by assumption) ?_; conv => whnf) | (refine HIf.decT (by assumption) ?_; conv => whnf) | (refine HIf.decF (by assumption) ?_; conv => whnf) | (refine HIf.beqT (by assumption) ?_; conv => whnf) | (refine HIf.beqF (by assumption) ?_; conv => whnf) | (refine HIf.bneT (by assumption) ?_; conv => whnf) | (refine HIf.bneF (by assumption) ?_; conv => whnf) | (refine ⟨rfl, Ints.idxN (by assumption) (by omega) (fun p hp => ?_)⟩; conv => whnf) | (refine ⟨rfl, Rows.idxN (by assumption) (by omega) (fun p y hp hy => ?_)⟩; conv => whnf) | (refine And.intro (show Kd.isBool _ = true from rfl) ?_; conv => whnf) | (refine ⟨rfl, Ints.idx (by assumption) (by omega) (by omega) (fun p hp => ?_)⟩; conv => whnf) | (refine ⟨rfl, Rows.idx (by assumption) (by omega) (by omega) (fun p y hp hy => ?_)⟩; conv => whnf) | (refine HArith.fits (by omega) (by omega) ?_; conv => whnf) | (refine Or.inl (And.intro (show Region.lexB _ _ = true by kernel_rfl) ?_); conv => whnf)))
      refine (spec_IsWord _ _ _ a0 a1 hx0 hx1 (by omega) (by omega)).mono ?_
      rintro r h1 ⟨rfl, rfl⟩
      rw [hic]
      (conv => whnf)
      (repeat (first | (refine ⟨rfl, Ints.len (by assumption) ?_⟩; conv => whnf) | (refine ⟨rfl, Rows.len (by assumption) ?_⟩; conv => whnf) | (refine ⟨rfl, HLen.sl ?_⟩; conv => whnf) | (refine ⟨rfl, At.load (by assumption) ?_⟩; conv => whnf) | (refine HIf.yes ?_; conv => whnf) | (refine HIf.no ?_; conv => whnf) | (refine HIf.isT (by assumption) ?_; conv => whnf) | (refine HIf.isF (by assumption) ?_; conv => whnf) | (refine HIf.decT (by assumption) ?_; conv => whnf) | (refine HIf.decF (by assumption) ?_; conv => whnf) | (refine HIf.beqT (by assumption) ?_; conv => whnf) | (refine HIf.beqF (by assumption) ?_; conv => whnf) | (refine HIf.bneT (by assumption) ?_; conv => whnf) | (refine HIf.bneF (by assumption) ?_; conv => whnf) | (refine ⟨rfl, Ints.idxN (by assumption) (by omega) (fun p hp => ?_)⟩; conv => whnf) | (refine ⟨rfl, Rows.idxN (by assumption) (by omega) (fun p y hp hy => ?_)⟩; conv => whnf) | (refine And.intro (show Kd.isBool _ = true from rfl) ?_; conv => whnf) | (refine ⟨rfl, Ints.idx (by assumption) (by omega) (by omega) (fun p hp => ?_)⟩; conv => whnf) | (refine ⟨rfl, Rows.idx (by assumption) (by omega) (by omega) (fun p y hp hy => ?_)⟩; conv => whnf) | (refine HArith.fits (by omega) (by omega) ?_; conv => whnf) | (refine Or.inl (And.intro (show Region.lexB _ _ = true by kernel_rfl) ?_); conv => whnf)))
      exact ⟨_, rfl, E0, OwnM.none _⟩
    · (conv => whnf)
      (repeat (first | (refine ⟨rfl, Ints.len (by assumption) ?_⟩; conv => whnf) | (refine ⟨rfl, Rows.len (by assumption) ?_⟩; conv => whnf) | (refine ⟨rfl, HLen.sl ?_⟩; conv => whnf) | (refine ⟨rfl, At.load (by assumption) ?_⟩; conv => whnf) | (refine HIf.yes ?_; conv => whnf) | (refine HIf.no ?_; conv => whnf) | (refine HIf.isT (by assumption) ?_; conv => whnf) | (refine HIf.isF (by assumption) ?_; conv => whnf) | (refine HIf.decT (by assumption) ?_; conv => whnf) | (refine HIf.decF (by assumption) ?_; conv => whnf) | (refine HIf.beqT (by assumption) ?_; conv => whnf) | (refine HIf.beqF (by assumption) ?_; conv => whnf) | (refine HIf.bneT (by assumption) ?_; conv => whnf) | (refine HIf.bneF (by assumption) ?_; conv => whnf) | (refine ⟨rfl, Ints.idxN (by assumption) (by omega) (fun p hp => ?_)⟩; conv => whnf) | (refine ⟨rfl, Rows.idxN (by assumption) (by omega) (fun p y hp hy => ?_)⟩; conv => whnf) | (refine And.intro (show Kd.isBool _ = true from rfl) ?_; conv => whnf) | (refine ⟨rfl, Ints.idx (by assumption) (by omega) (by omega) (fun p hp => ?_)⟩; conv => whnf) | (refine ⟨rfl, Rows.idx (by assumption) (by omega) (by omega) (fun p y hp hy => ?_)⟩; conv => whnf) | (refine HArith.fits (by omega) (by omega) ?_; conv => whnf) | (refine Or.inl (And.intro (show Region.lexB _ _ = true by kernel_rfl) ?_); conv => whnf)))
      exact ⟨_, rfl, E0, OwnM.none _⟩
  obtain ⟨hC, h15, hw⟩ := word_cartan hic
  have h4 := hC.le
  rw [rootSeq_on hic]
  refine calls_of_hFun (m := 0) kd_ok mixed Try.func70 rfl (by kernel_rfl) rfl rfl (of_decide_eq_true rfl) ?_; unfold hFun; (conv => whnf)
  refine HLit.empty ?_
  (conv => whnf)
  refine HLoop.intro [6, 5] [9, 10, 11, 12, 13, 14, 15, 16, 17, 20, 21, 22, 23, 24, 25, 26, 27, 28, 29, 30, 7, 31, 32, 33, 34, 5, 18, 19, 6] (by kernel_rfl) (by kernel_rfl) (fun vs h' => ∃ (k : Nat) (z : H0), vs = [I k, .s z] ∧ k ≤ a1.length ∧ Ext h h' ∧ OwnM h.length h'.length h' z (rootsTo a0 a1 k)) (fun vs _ => a1.length - natAt vs 0) ⟨0, _, rfl, by omega, E0, OwnM.none h⟩ ?_
  rintro vs h' ⟨k, z, rfl, hk, E, O⟩
  have hx0 := hx0.ext E
  have hx1 := hx1.ext E
  have hrl := rootsTo_length a0 a1 k
  (conv => whnf)
  refine ⟨rfl, hx1.len ?_⟩
  (conv => whnf)
  refine HIf.dec (fun hlt => ?_) (fun hge => ?_)
  · have hlet := letters_get hw (i := k) (by omega)
    have hsl := simpleRoot_length a0 (a1.getD k 0)
    have hal := actOn_letter hic (k := k) (by omega)
    (conv => whnf)
    (repeat (first | (refine ⟨rfl, Ints.len (by assumption) ?_⟩; conv => whnf) | (refine ⟨rfl, Rows.len (by assumption) ?_⟩; conv => whnf) | (refine ⟨rfl, HLen.sl ?_⟩; conv => whnf) | (refine ⟨rfl, At.load (by assumption) ?_⟩; conv => whnf) | (refine HIf.yes ?_; conv => whnf) | (refine HIf.no ?_; conv => whnf) | (refine HIf.isT (by assumption) ?_; conv => whnf) | (refine HIf.isF (by assumption) ?_; conv => whnf) | (refine HIf.decT (by assumption) ?_; conv => whnf) | (refine HIf.decF (by assumption) ?_; conv => whnf) | (refine HIf.beqT (by assumption) ?_; conv => whnf) | (refine HIf.beqF (by assumption) ?_; conv => whnf) | (refine HIf.bneT (by assumption) ?_; conv => whnf) | (refine HIf.bneF (by assumption) ?_; conv => whnf) | (refine ⟨rfl, Ints.idxN (by assumption) (by omega) (fun p hp => ?_)⟩; conv => whnf) | (refine ⟨rfl, Rows.idxN (by assumption) (by omega) (fun p y hp hy => ?_)⟩; conv => whnf) | (refine And.intro (show Kd.isBool _ = true from rfl) ?_; conv => whnf) | (refine ⟨rfl, Ints.idx (by assumption) (by omega) (by omega) (fun p hp => ?_)⟩; conv => whnf) | (refine ⟨rfl, Rows.idx (by assumption) (by omega) (by omega) (fun p y hp hy => ?_)⟩; conv => whnf) | (refine HArith.fits (by omega) (by omega) ?_; conv => whnf) | (refine Or.inl (And.intro (show Region.lexB _ _ = true by kernel_rfl) ?_); conv => whnf)))
    refine (spec_IsWord _ _ _ a0 a1 hx0 hx1 (by omega) (by omega)).mono ?_
    rintro r h1 ⟨rfl, rfl⟩
    rw [hic]
    (conv => whnf)
    (repeat (first | (refine HIf.yes ?_; conv => whnf) | (refine HIf.decT hlt ?_; conv => whnf)))
    refine Or.inr (Or.inr (Or.inl (Exists.intro 12 (Exists.intro [0, 1, 2, 3, 4, 5, 6, 7, 8] (Exists.intro [9, 10, 11] (And.intro (show heldOk _ _ _ _ = true by kernel_rfl) ?_)))))); (conv => whnf)
    refine ⟨rfl, Ints.take hx1 k (by omega) (fun y1 hy1 => ?_)⟩
    (conv => whnf)
    refine ⟨rfl, Ints.idxN hx1 (by omega) (fun p hp => ?_)⟩
    (conv => whnf)
    refine ⟨rfl, hp.load ?_⟩
    (conv => whnf)
    refine HCallF.fresh (spec_SimpleRoot _ _ a0 _ hx0.frz s0 (by omega)) (fun h2 y2 f2 => ?_)
    (conv => whnf)
    refine HCallF.fresh (spec_ActOnRoot _ _ a0 _ _ _ _ (hx0.ext f2.1).frz (hy1.ext f2.1).frz f2.ints.frz s0 (by simp; omega) (by omega)) (fun h3 y3 f3 => ?_)
    have hz := Fresh.inner f2.1 f3
    rw [hal] at hz
    (conv => whnf)
    refine HLit.row hz.2.one ?_
    (conv => whnf)
    refine ⟨rfl, rfl, HApp.snocM E O hz.1 hz.2 (by omega) (fun h4 y4 E4 O4 => ?_)⟩
    rw [← rootsTo_succ] at O4
    (conv => whnf)
    refine HArith.fits (by omega) (by omega) ?_
    (conv => whnf)
    exact ⟨⟨k + 1, y4, rfl, by omega, E4, O4⟩, by show a1.length - (k + 1) < a1.length - k; omega⟩
  · have e : k = a1.length := by omega
    (conv => whnf)
    (repeat (first | (refine HIf.decF hge ?_; conv => whnf) | (refine HIf.no ?_; conv => whnf)))
    subst e
    exact ⟨_, rfl, E, O⟩

theorem impl_DeletionPair (h : Heap) (x0 : H0) (a0 : List (List Int)) (x1 : H0) (a1 : List Int) (hx0 : Rows h x0 a0) (hx1 : Ints h x1 a1) (s0 : a0.length ≤ 1048576 ∧ tot a0 ≤ 1048576) (s1 : a1.length ≤ 1048576) :
    HCalls dm Try.prog 34 [.s x0, .s x1] h (fun r h' => r = T3 (delPair a0 a1) ∧ Ext h h') := by
  refine calls_of_hFun (m := 0) kd_ok mixed Try.func34 rfl (by kernel_rfl) rfl rfl (of_decide_eq_true rfl) ?_; unfold hFun; (conv => whnf)
  refine (impl_IsWord _ _ _ a0 a1 hx0 hx1 (by omega) (by omega)).mono ?_
  rintro r h1 ⟨rfl, rfl⟩
  (conv => whnf)
  cases hic : isWord a0 a1
  · rw [delPair_off hic]
    (repeat (first | (refine ⟨rfl, Ints.len (by assumption) ?_⟩; conv => whnf) | (refine ⟨rfl, Rows.len (by assumption) ?_⟩; conv => whnf) | (refine ⟨rfl, HLen.sl ?_⟩; conv => whnf) | (refine ⟨rfl, At.load (by assumption) ?_⟩; conv => whnf) | (refine HIf.yes ?_; conv => whnf) | (refine HIf.no ?_; conv => whnf) | (refine HIf.isT (by assumption) ?_; conv => whnf) | (refine HIf.isF (by assumption) ?_; conv => whnf) | (refine HIf.decT (by assumption) ?_; conv => whnf) | (refine HIf.decF (by assumption) ?_; conv => whnf) | (refine HIf.beqT (by assumption) ?_; conv => whnf) | (refine HIf.beqF (by assumption) ?_; conv => whnf) | (refine HIf.bneT (by assumption) ?_; conv => whnf) | (refine HIf.bneF (by assumption) ?_; conv => whnf) | (refine ⟨rfl, Ints.idxN (by assumption) (by omega) (fun p hp => ?_)⟩; conv => whnf) | (refine ⟨rfl, Rows.idxN (by assumption) (by omega) (fun p y hp hy => ?_)⟩; conv => whnf) | (refine And.intro (show Kd.isBool _ = true from rfl) ?_; conv => whnf) | (refine ⟨rfl, Ints.idx (by assumption) (by omega) (by omega) (fun p hp => ?_)⟩; conv => whnf) | (refine ⟨rfl, Rows.idx (by assumption) (by omega) (by omega) (fun p y hp hy => ?_)⟩; conv => whnf) | (refine HArith.fits (by omega) (by omega) ?_; conv => whnf) | (refine Or.inl (And.intro (show Region.lexB _ _ = true by kernel_rfl) ?_); conv => whnf)))
    exact ⟨rfl, Ext.refl _⟩
  obtain ⟨hC, h15, hw⟩ := word_cartan hic
  have h4 := hC.le
  (repeat (first | (refine ⟨rfl, Ints.len (by assumption) ?_⟩; conv => whnf) | (refine ⟨rfl, Rows.len (by assumption) ?_⟩; conv => whnf) | (refine ⟨rfl, HLen.sl ?_⟩; conv => whnf) | (refine ⟨rfl, At.load (by assumption) ?_⟩; conv => whnf) | (refine HIf.yes ?_; conv => whnf) | (refine HIf.no ?_; conv => whnf) | (refine HIf.isT (by assumption) ?_; conv => whnf) | (refine HIf.isF (by assumption) ?_; conv => whnf) | (refine HIf.decT (by assumption) ?_; conv => whnf) | (refine HIf.decF (by assumption) ?_; conv => whnf) | (refine HIf.beqT (by assumption) ?_; conv => whnf) | (refine HIf.beqF (by assumption) ?_; conv => whnf) | (refine HIf.bneT (by assumption) ?_; conv => whnf) | (refine HIf.bneF (by assumption) ?_; conv => whnf) | (refine ⟨rfl, Ints.idxN (by assumption) (by omega) (fun p hp => ?_)⟩; conv => whnf) | (refine ⟨rfl, Rows.idxN (by assumption) (by omega) (fun p y hp hy => ?_)⟩; conv => whnf) | (refine And.intro (show Kd.isBool _ = true from rfl) ?_; conv => whnf) | (refine ⟨rfl, Ints.idx (by assumption) (by omega) (by omega) (fun p hp => ?_)⟩; conv => whnf) | (refine ⟨rfl, Rows.idx (by assumption) (by omega) (by omega) (fun p y hp hy => ?_)⟩; conv => whnf) | (refine HArith.fits (by omega) (by omega) ?_; conv => whnf) | (refine Or.inl (And.intro (show Region.lexB _ _ = true by kernel_rfl) ?_); conv => whnf)))
  refine (impl_image _ _ a0 _ a1 hx0 hx1 hC hw s1).mono ?_
  rintro r h2 ⟨y1, rfl, f1⟩
  have E1 := f1.1
  have hx11 := hx1.ext E1
  (conv => whnf)
  refine ⟨rfl, hx11.len ?_⟩
  (conv => whnf)
  refine HLoop.intro [19] [20, 21, 8, 22, 23, 9, 24, 25, 26, 27, 30, 31, 32, 33, 34, 35, 36, 37, 38, 39, 40, 4, 5, 6, 28, 29, 9, 41, 19] (by kernel_rfl) (by kernel_rfl) (fun vs h' => ∃ i : Nat, vs = [I i] ∧ i ≤ a1.length ∧ Ext h2 h' ∧ ∀ k, k < i → firstJ a0 a1 k = none) (fun vs _ => a1.length - natAt vs 0) ⟨0, rfl, by omega, Ext.refl _, fun k hk => by omega⟩ ?_
  rintro vs h3 ⟨i, rfl, hi, E2, hb⟩
  (conv => whnf)
  refine HIf.dec (fun hlt => ?_) (fun hge => ?_)
  · (conv => whnf)
    refine HArith.fits (by omega) (by omega) ?_
    (conv => whnf)
    refine HLoop.intro [9] [24, 25, 26, 27, 30, 31, 32, 33, 34, 35, 36, 37, 38, 39, 40, 4, 5, 6, 28, 29, 9] (by kernel_rfl) (by kernel_rfl) (fun vs h' => ∃ j : Nat, vs = [I j] ∧ i < j ∧ j ≤ a1.length ∧ Ext h2 h' ∧ ∀ k, i < k → k < j → hit a0 a1 i k = false) (fun vs _ => a1.length - natAt vs 0) ⟨i + 1, rfl, by omega, by omega, E2, fun k _ hk => by omega⟩ ?_
    rintro vs h4 ⟨j, rfl, hij, hj, E3, hbj⟩
    have E := E1.trans E3
    have hx0 := hx0.ext E
    have hx1 := hx1.ext E
    (conv => whnf)
    refine ⟨rfl, hx1.len ?_⟩
    (conv => whnf)
    refine HIf.dec (fun hltj => ?_) (fun hgej => ?_)
    · (conv => whnf)
      refine (impl_DeleteAt _ _ a1 (j : Int) hx1 s1 (by omega)).mono ?_
      rintro r h5 ⟨y5, rfl, f5⟩
      have hd1 := del_len a1 (j : Int)
      (conv => whnf)
      refine (impl_DeleteAt _ _ _ (i : Int) f5.ints (by omega) (by omega)).mono ?_
      rintro r h6 ⟨y6, rfl, f6⟩
      have hd2 := del_len (del a1 (j : Int)) (i : Int)
      have E6 := f5.1.trans f6.1
      (conv => whnf)
      refine (impl_image _ _ a0 _ _ (hx0.ext E6) f6.ints hC (lettersOk_del (lettersOk_del hw _) _) (by omega)).mono ?_
      rintro r h7 ⟨y7, rfl, f7⟩
      have E7 := E6.trans f7.1
      (conv => whnf)
      refine (lib_Equal _ _ _ _ _ f7.ints (f1.ints.ext (E3.trans E7)) (by rw [imageOf_length]; omega)).mono ?_
      rintro r h8 ⟨rfl, rfl⟩
      (conv => whnf)
      refine HIf.split (fun hh => ?_) (fun hh => ?_)
      · have hf := firstJ_at (c := a0) (w := a1) (i := i) (j := j) (by omega) hij hh hbj
        rw [delPair_at hic (by omega) hf hb]
        (conv => whnf)
        exact ⟨rfl, E.trans E7⟩
      · (conv => whnf)
        refine HArith.fits (by omega) (by omega) ?_
        (conv => whnf)
        refine ⟨⟨j + 1, rfl, by omega, by omega, E3.trans E7, fun k h1 h2 => ?_⟩, by show a1.length - (j + 1) < a1.length - j; omega⟩
        by_cases e : k = j
        · subst e; exact hh
        · exact hbj k h1 (by omega)
    · have hf := firstJ_none (c := a0) (w := a1) (i := i) (fun k h1 h2 => hbj k h1 (by omega))
      (conv => whnf)
      refine HArith.fits (by omega) (by omega) ?_
      (conv => whnf)
      refine ⟨⟨i + 1, rfl, by omega, E3, fun k h1 => ?_⟩, by show a1.length - (i + 1) < a1.length - i; omega⟩
      by_cases e : k = i
      · subst e; exact hf
      · exact hb k (by omega)
  · rw [delPair_none hic (fun k hk => hb k (by omega))]
    (conv => whnf)
    exact ⟨rfl, E1.trans E2⟩

theorem spec_DeletionPair (h : Heap) (x0 : H0) (a0 : List (List Int)) (x1 : H0) (a1 : List Int) (hx0 : Rows h x0 a0) (hx1 : Ints h x1 a1) (s0 : a0.length ≤ 1048576 ∧ tot a0 ≤ 1048576) (s1 : a1.length ≤ 1048576) :
    HCalls dm Try.prog 35 [.s x0, .s x1] h (fun r h' => r = T3 (delPair a0 a1) ∧ Ext h h') := by
  refine calls_of_hFun (m := 0) kd_ok mixed Try.func35 rfl (by kernel_rfl) rfl rfl (of_decide_eq_true rfl) ?_; unfold hFun; (conv => whnf)
  refine (spec_IsWord _ _ _ a0 a1 hx0 hx1 (by omega) (by omega)).mono ?_
  rintro r h1 ⟨rfl, rfl⟩
  (conv => whnf)
  cases hic : isWord a0 a1
  · rw [delPair_off hic]
    (repeat (first | (refine ⟨rfl, Ints.len (by assumption) ?_⟩; conv => whnf) | (refine ⟨rfl, Rows.len (by assumption) ?_⟩; conv => whnf) | (refine ⟨rfl, HLen.sl ?_⟩; conv => whnf) | (refine ⟨rfl, At.load (by assumption) ?_⟩; conv => whnf) | (refine HIf.yes ?_; conv => whnf) | (refine HIf.no ?_; conv => whnf) | (refine HIf.isT (by assumption) ?_; conv => whnf) | (refine HIf.isF (by assumption) ?_; conv => whnf) | (refine HIf.decT (by assumption) ?_; conv => whnf) | (refine HIf.decF (by assumption) ?_; conv => whnf) | (refine HIf.beqT (by assumption) ?_; conv => whnf) | (refine HIf.beqF (by assumption) ?_; conv => whnf) | (refine HIf.bneT (by assumption) ?_; conv => whnf) | (refine HIf.bneF (by assumption) ?_; conv => whnf) | (refine ⟨rfl, Ints.idxN (by assumption) (by omega) (fun p hp => ?_)⟩; conv => whnf) | (refine ⟨rfl, Rows.idxN (by assumption) (by omega) (fun p y hp hy => ?_)⟩; conv => whnf) | (refine And.intro (show Kd.isBool _ = true from rfl) ?_; conv => whnf) | (refine ⟨rfl, Ints.idx (by assumption) (by omega) (by omega) (fun p hp => ?_)⟩; conv => whnf) | (refine ⟨rfl, Rows.idx (by assumption) (by omega) (by omega) (fun p y hp hy => ?_)⟩; conv => whnf) | (refine HArith.fits (by omega) (by omega) ?_; conv => whnf) | (refine Or.inl (And.intro (show Region.lexB _ _ = true by kernel_rfl) ?_); conv => whnf)))
    exact ⟨rfl, Ext.refl _⟩
  obtain ⟨hC, h15, hw⟩ := word_cartan hic
  have h4 := hC.le
  have hcc := (isCartan_iff a0).2 hC
  (repeat (first | (refine ⟨rfl, Ints.len (by assumption) ?_⟩; conv => whnf) | (refine ⟨rfl, Rows.len (by assumption) ?_⟩; conv => whnf) | (refine ⟨rfl, HLen.sl ?_⟩; conv => whnf) | (refine ⟨rfl, At.load (by assumption) ?_⟩; conv => whnf) | (refine HIf.yes ?_; conv => whnf) | (refine HIf.no ?_; conv => whnf) | (refine HIf.isT (by assumption) ?_; conv => whnf) | (refine HIf.isF (by assumption) ?_; conv => whnf) | (refine HIf.decT (by assumption) ?_; conv => whnf) | (refine HIf.decF (by assumption) ?_; conv => whnf) | (refine HIf.beqT (by assumption) ?_; conv => whnf) | (refine HIf.beqF (by assumption) ?_; conv => whnf) | (refine HIf.bneT (by assumption) ?_; conv => whnf) | (refine HIf.bneF (by assumption) ?_; conv => whnf) | (refine ⟨rfl, Ints.idxN (by assumption) (by omega) (fun p hp => ?_)⟩; conv => whnf) | (refine ⟨rfl, Rows.idxN (by assumption) (by omega) (fun p y hp hy => ?_)⟩; conv => whnf) | (refine And.intro (show Kd.isBool _ = true from rfl) ?_; conv => whnf) | (refine ⟨rfl, Ints.idx (by assumption) (by omega) (by omega) (fun p hp => ?_)⟩; conv => whnf) | (refine ⟨rfl, Rows.idx (by assumption) (by omega) (by omega) (fun p y hp hy => ?_)⟩; conv => whnf) | (refine HArith.fits (by omega) (by omega) ?_; conv => whnf) | (refine Or.inl (And.intro (show Region.lexB _ _ = true by kernel_rfl) ?_); conv => whnf)))
  refine (spec_l8Image _ _ a0 _ a1 hx0 hx1 hcc hw s1).mono ?_
  rintro r h2 ⟨y1, rfl, f1⟩
  have E1 := f1.1
  (conv => whnf)
  refine HLoop.intro [8] [17, 18, 19, 20, 23, 24, 9, 25, 26, 27, 28, 31, 32, 33, 34, 35, 36, 37, 38, 39, 40, 41, 4, 5, 6, 29, 30, 9, 21, 22, 8] (by kernel_rfl) (by kernel_rfl) (fun vs h' => ∃ i : Nat, vs = [I i] ∧ i ≤ a1.length ∧ Ext h2 h' ∧ ∀ k, k < i → firstJ a0 a1 k = none) (fun vs _ => a1.length - natAt vs 0) ⟨0, rfl, by omega, Ext.refl _, fun k hk => by omega⟩ ?_
  rintro vs h3 ⟨i, rfl, hi, E2, hb⟩
  have hx12 := hx1.ext (E1.trans E2)
  (conv => whnf)
  refine ⟨rfl, hx12.len ?_⟩
  (conv => whnf)
  refine HIf.dec (fun hlt => ?_) (fun hge => ?_)
  · (conv => whnf)
    refine HArith.fits (by omega) (by omega) ?_
    (conv => whnf)
    refine HLoop.intro [9] [25, 26, 27, 28, 31, 32, 33, 34, 35, 36, 37, 38, 39, 40, 41, 4, 5, 6, 29, 30, 9] (by kernel_rfl) (by kernel_rfl) (fun vs h' => ∃ j : Nat, vs = [I j] ∧ i < j ∧ j ≤ a1.length ∧ Ext h2 h' ∧ ∀ k, i < k → k < j → hit a0 a1 i k = false) (fun vs _ => a1.length - natAt vs 0) ⟨i + 1, rfl, by omega, by omega, E2, fun k _ hk => by omega⟩ ?_
    rintro vs h4 ⟨j, rfl, hij, hj, E3, hbj⟩
    have E := E1.trans E3
    have hx0 := hx0.ext E
    have hx1 := hx1.ext E
    (conv => whnf)
    refine ⟨rfl, hx1.len ?_⟩
    (conv => whnf)
    refine HIf.dec (fun hltj => ?_) (fun hgej => ?_)
    · (conv => whnf)
      refine (spec_DeleteAt _ _ a1 (j : Int) hx1 s1 (by omega)).mono ?_
      rintro r h5 ⟨y5, rfl, f5⟩
      have hd1 := del_len a1 (j : Int)
      (conv => whnf)
      refine (spec_DeleteAt _ _ _ (i : Int) f5.ints (by omega) (by omega)).mono ?_
      rintro r h6 ⟨y6, rfl, f6⟩
      have hd2 := del_len (del a1 (j : Int)) (i : Int)
      have E6 := f5.1.trans f6.1
      (conv => whnf)
      refine (spec_l8Image _ _ a0 _ _ (hx0.ext E6) f6.ints hcc (lettersOk_del (lettersOk_del hw _) _) (by omega)).mono ?_
      rintro r h7 ⟨y7, rfl, f7⟩
      have E7 := E6.trans f7.1
      (conv => whnf)
      refine (spec_EqualWords _ _ _ _ _ f7.ints (f1.ints.ext (E3.trans E7)) (by rw [imageOf_length]; omega)).mono ?_
      rintro r h8 ⟨rfl, rfl⟩
      (conv => whnf)
      refine HIf.split (fun hh => ?_) (fun hh => ?_)
      · have hf := firstJ_at (c := a0) (w := a1) (i := i) (j := j) (by omega) hij hh hbj
        rw [delPair_at hic (by omega) hf hb]
        (conv => whnf)
        exact ⟨rfl, E.trans E7⟩
      · (conv => whnf)
        refine HArith.fits (by omega) (by omega) ?_
        (conv => whnf)
        refine ⟨⟨j + 1, rfl, by omega, by omega, E3.trans E7, fun k h1 h2 => ?_⟩, by show a1.length - (j + 1) < a1.length - j; omega⟩
        by_cases e : k = j
        · subst e; exact hh
        · exact hbj k h1 (by omega)
    · have hf := firstJ_none (c := a0) (w := a1) (i := i) (fun k h1 h2 => hbj k h1 (by omega))
      (conv => whnf)
      refine HArith.fits (by omega) (by omega) ?_
      (conv => whnf)
      refine ⟨⟨i + 1, rfl, by omega, E3, fun k h1 => ?_⟩, by show a1.length - (i + 1) < a1.length - i; omega⟩
      by_cases e : k = i
      · subst e; exact hf
      · exact hb k (by omega)
  · rw [delPair_none hic (fun k hk => hb k (by omega))]
    (conv => whnf)
    exact ⟨rfl, E1.trans E2⟩

end Go.Proofs.Ytkkniibnlniflaa.Hx
