/-
  Contracts of small functions over one slice of ints: SignOf, HeightOf, SquareFree, RootSign, each as the program has it and as the reference has it.
  The order of roots (by height, then by the first number that differs, greater ones first), sorted lists of roots, and slices of slices that grow by rows that are there already. Plain, and over rows.
  The list of all reduced words in the order of letters, and what a search by braid moves finds. Plain theory.
-/
import Derived.Test.YtnooeaemjnmkdaaZ14
namespace Go.Proofs.Ytnooeaemjnmkdaa.Hx
open Go.RowKit
variable {dm : Bool}

def signOf (a : List Int) : Int := if (a.length : Int).tmod 2 = 0 then 1 else -1

def heightOf (a : List Int) : Int := a.foldl (fun s x => IntKind.i64.wrap (s + x)) 0

theorem heightOf_snoc (a : List Int) (i : Nat) (hi : i < a.length) : heightOf (a.take (i + 1)) = IntKind.i64.wrap (heightOf (a.take i) + a.getD i 0) := by
  rw [List.take_succ_eq_append_getElem hi]
  unfold heightOf
  rw [List.foldl_append]
  simp [List.getD, hi]

theorem spec_HeightOf (h : Heap) (x : H0) (a : List Int) (hx : Ints h x a) (hal : a.length ≤ 2199023255552) : HCalls dm Try.prog 45 [.s x] h (fun r h' => r = I (heightOf a) ∧ h' = h) := by
  refine calls_of_hFun (m := 0) kd_ok mixed Try.func45 rfl (by kernel_rfl) rfl rfl (of_decide_eq_true rfl) ?_; unfold hFun; (conv => whnf)
  refine HLoop.intro [4, 3] [5, 6, 7, 8, 11, 12, 13, 14, 15, 16, 3, 9, 10, 4] (by kernel_rfl) (by kernel_rfl) (fun vs h' => ∃ i : Nat, vs = [I i, I (heightOf (a.take i))] ∧ i ≤ a.length ∧ h' = h) (fun vs _ => a.length - natAt vs 0) ⟨0, rfl, by omega, rfl⟩ ?_
  rintro vs h' ⟨i, rfl, hi, rfl⟩
  (conv => whnf)
  (repeat (first | (refine ⟨rfl, Ints.len (by assumption) ?_⟩; conv => whnf) | (refine ⟨rfl, Rows.len (by assumption) ?_⟩; conv => whnf) | (refine ⟨rfl, HLen.sl ?_⟩; conv => whnf) | (refine ⟨rfl, At.load (by assumption) ?_⟩; conv => whnf) | (refine HIf.yes ?_; conv => whnf) | (refine HIf.no ?_; conv => whnf) | (refine HIf.isT (by assumption) ?_; conv => whnf) | (refine HIf.isF (by assumption) ?_; conv => whnf) | (refine HIf.decT (by assumption) ?_; conv => whnf) | (refine HIf.decF (by assumption) ?_; conv => whnf) | (refine HIf.beqT (by assumption) ?_; conv => whnf) | (refine HIf.beqF (by assumption) ?_; conv => whnf) | (refine HIf.bneT (by assumption) ?_; conv => whnf) | (refine HIf.bneF (by assumption) ?_; conv => whnf) | (refine ⟨rfl, Ints.idxN (by assumption) (by omega) (fun p hp => ?_)⟩; conv => whnf) | (refine ⟨rfl, Rows.idxN (by assumption) (by omega) (fun p y hp hy => ?_)⟩; conv => whnf) | (refine And.intro (show Kd.isBool _ = true from rfl) ?_; conv => whnf) | (refine ⟨rfl, Ints.idx (by assumption) (by omega) (by omega) (fun p hp => ?_)⟩; conv => whnf) | (refine ⟨rfl, Rows.idx (by assumption) (by omega) (by omega) (fun p y hp hy => ?_)⟩; conv => whnf) | (refine HArith.fits (by omega) (by omega) ?_; conv => whnf) | (refine Or.inl (And.intro (show Region.lexB _ _ = true by kernel_rfl) ?_); conv => whnf)))
  refine HIf.dec (fun hlt => ?_) (fun hge => ?_)
  · (conv => whnf)
    refine ⟨rfl, Ints.idx hx (by omega) (by omega) (fun p hp => ?_)⟩
    (conv => whnf)
    refine ⟨rfl, hp.load ?_⟩
    (conv => whnf)
    refine HArith.any ?_
    (conv => whnf)
    (repeat (first | (refine ⟨rfl, Ints.len (by assumption) ?_⟩; conv => whnf) | (refine ⟨rfl, Rows.len (by assumption) ?_⟩; conv => whnf) | (refine ⟨rfl, HLen.sl ?_⟩; conv => whnf) | (refine ⟨rfl, At.load (by assumption) ?_⟩; conv => whnf) | (refine HIf.yes ?_; conv => whnf) | (refine HIf.no ?_; conv => whnf) | (refine HIf.isT (by assumption) ?_; conv => whnf) | (refine HIf.isF (by assumption) ?_; conv => whnf) | (refine HIf.decT (by assumption) ?_; conv => whnf) | (refine HIf.decF (by assumption) ?_; conv => whnf) | (refine HIf.beqT (by assumption) ?_; conv => whnf) | (refine HIf.beqF (by assumption) ?_; conv => whnf) | (refine HIf.bneT (by assumption) ?_; conv => whnf) | (refine HIf.bneF (by assumption) ?_; conv => whnf) | (refine ⟨rfl, Ints.idxN (by assumption) (by omega) (fun p hp => ?_)⟩; conv => whnf) | (refine ⟨rfl, Rows.idxN (by assumption) (by omega) (fun p y hp hy => ?_)⟩; conv => whnf) | (refine And.intro (show Kd.isBool _ = true from rfl) ?_; conv => whnf) | (refine ⟨rfl, Ints.idx (by assumption) (by omega) (by omega) (fun p hp => ?_)⟩; conv => whnf) | (refine ⟨rfl, Rows.idx (by assumption) (by omega) (by omega) (fun p y hp hy => ?_)⟩; conv => whnf) | (refine HArith.fits (by omega) (by omega) ?_; conv => whnf) | (refine Or.inl (And.intro (show Region.lexB _ _ = true by kernel_rfl) ?_); conv => whnf)))
    exact ⟨⟨i + 1, by rw [heightOf_snoc a i (by omega)]; rfl, by omega, rfl⟩, by show a.length - (i + 1) < a.length - i; omega⟩
  · (conv => whnf)
    have e : i = a.length := by omega
    rw [e, List.take_length]
    exact ⟨rfl, rfl⟩

theorem impl_HeightOf (h : Heap) (x : H0) (a : List Int) (hx : Ints h x a) (hal : a.length ≤ 2199023255552) : HCalls dm Try.prog 69 [.s x] h (fun r h' => r = I (heightOf a) ∧ h' = h) := by
  refine calls_of_hFun (m := 0) kd_ok mixed Try.func69 rfl (by kernel_rfl) rfl rfl (of_decide_eq_true rfl) ?_; unfold hFun; (conv => whnf)
  refine ⟨rfl, hx.len ?_⟩
  (conv => whnf)
  refine HLoop.intro [8, 3] [9, 10, 11, 5, 12, 13, 14, 3, 15, 8] (by kernel_rfl) (by kernel_rfl) (fun vs h' => ∃ i : Nat, vs = [I i, I (heightOf (a.take i))] ∧ i ≤ a.length ∧ h' = h) (fun vs _ => a.length - natAt vs 0) ⟨0, rfl, by omega, rfl⟩ ?_
  rintro vs h' ⟨i, rfl, hi, rfl⟩
  (conv => whnf)
  refine HIf.dec (fun hlt => ?_) (fun hge => ?_)
  · (conv => whnf)
    refine ⟨rfl, Ints.idx hx (by omega) (by omega) (fun p hp => ?_)⟩
    (conv => whnf)
    refine ⟨rfl, hp.load ?_⟩
    (conv => whnf)
    refine HArith.any ?_
    (conv => whnf)
    (repeat (first | (refine ⟨rfl, Ints.len (by assumption) ?_⟩; conv => whnf) | (refine ⟨rfl, Rows.len (by assumption) ?_⟩; conv => whnf) | (refine ⟨rfl, HLen.sl ?_⟩; conv => whnf) | (refine ⟨rfl, At.load (by assumption) ?_⟩; conv => whnf) | (refine HIf.yes ?_; conv => whnf) | (refine HIf.no ?_; conv => whnf) | (refine HIf.isT (by assumption) ?_; conv => whnf) | (refine HIf.isF (by assumption) ?_; conv => whnf) | (refine HIf.decT (by assumption) ?_; conv => whnf) | (refine HIf.decF (by assumption) ?_; conv => whnf) | (refine HIf.beqT (by assumption) ?_; conv => whnf) | (refine HIf.beqF (by assumption) ?_; conv => whnf) | (refine HIf.bneT (by assumption) ?_; conv => whnf) | (refine HIf.bneF (by assumption) ?_; conv => whnf) | (refine ⟨rfl, Ints.idxN (by assumption) (by omega) (fun p hp => ?_)⟩; conv => whnf) | (refine ⟨rfl, Rows.idxN (by assumption) (by omega) (fun p y hp hy => ?_)⟩; conv => whnf) | (refine And.intro (show Kd.isBool _ = true from rfl) ?_; conv => whnf) | (refine ⟨rfl, Ints.idx (by assumption) (by omega) (by omega) (fun p hp => ?_)⟩; conv => whnf) | (refine ⟨rfl, Rows.idx (by assumption) (by omega) (by omega) (fun p y hp hy => ?_)⟩; conv => whnf) | (refine HArith.fits (by omega) (by omega) ?_; conv => whnf) | (refine Or.inl (And.intro (show Region.lexB _ _ = true by kernel_rfl) ?_); conv => whnf)))
    exact ⟨⟨i + 1, by rw [heightOf_snoc a i (by omega)]; rfl, by omega, rfl⟩, by show a.length - (i + 1) < a.length - i; omega⟩
  · (conv => whnf)
    have e : i = a.length := by omega
    rw [e, List.take_length]
    exact ⟨rfl, rfl⟩

/-- No two neighbours are equal. -/
def sqFree (a : List Int) : Bool := (List.range a.length).all fun j => decide (j = 0) || !(a.getD j 0 == a.getD (j - 1) 0)

def anyUp (a : List Int) : Bool := a.any fun n => decide (n > 0)
def anyDown (a : List Int) : Bool := a.any fun n => decide (n < 0)
def rootSign (a : List Int) : Int := if anyUp a == anyDown a then 0 else if anyUp a then 1 else -1

theorem anyUp_snoc (a : List Int) (i : Nat) (hi : i < a.length) : anyUp (a.take (i + 1)) = (anyUp (a.take i) || decide (a.getD i 0 > 0)) := by
  rw [List.take_succ_eq_append_getElem hi]
  unfold anyUp
  rw [List.any_append]
  simp [List.getD, hi]

theorem anyDown_snoc (a : List Int) (i : Nat) (hi : i < a.length) : anyDown (a.take (i + 1)) = (anyDown (a.take i) || decide (a.getD i 0 < 0)) := by
  rw [List.take_succ_eq_append_getElem hi]
  unfold anyDown
  rw [List.any_append]
  simp [List.getD, hi]

theorem spec_RootSign (h : Heap) (x : H0) (a : List Int) (hx : Ints h x a) (hal : a.length ≤ 2199023255552) : HCalls dm Try.prog 44 [.s x] h (fun r h' => r = I (rootSign a) ∧ h' = h) := by
  refine calls_of_hFun (m := 0) kd_ok mixed Try.func44 rfl (by kernel_rfl) rfl rfl (of_decide_eq_true rfl) ?_; unfold hFun; (conv => whnf)
  refine HLoop.intro [5, 3, 4] [6, 7, 8, 9, 12, 13, 14, 15, 16, 17, 18, 19, 3, 20, 21, 22, 23, 24, 25, 26, 27, 4, 10, 11, 5] (by kernel_rfl) (by kernel_rfl) (fun vs h' => ∃ i : Nat, vs = [I i, B (anyUp (a.take i)), B (anyDown (a.take i))] ∧ i ≤ a.length ∧ h' = h) (fun vs _ => a.length - natAt vs 0) ⟨0, rfl, by omega, rfl⟩ ?_
  rintro vs h' ⟨i, rfl, hi, rfl⟩
  (conv => whnf)
  (repeat (first | (refine ⟨rfl, Ints.len (by assumption) ?_⟩; conv => whnf) | (refine ⟨rfl, Rows.len (by assumption) ?_⟩; conv => whnf) | (refine ⟨rfl, HLen.sl ?_⟩; conv => whnf) | (refine ⟨rfl, At.load (by assumption) ?_⟩; conv => whnf) | (refine HIf.yes ?_; conv => whnf) | (refine HIf.no ?_; conv => whnf) | (refine HIf.isT (by assumption) ?_; conv => whnf) | (refine HIf.isF (by assumption) ?_; conv => whnf) | (refine HIf.decT (by assumption) ?_; conv => whnf) | (refine HIf.decF (by assumption) ?_; conv => whnf) | (refine HIf.beqT (by assumption) ?_; conv => whnf) | (refine HIf.beqF (by assumption) ?_; conv => whnf) | (refine HIf.bneT (by assumption) ?_; conv => whnf) | (refine HIf.bneF (by assumption) ?_; conv => whnf) | (refine ⟨rfl, Ints.idxN (by assumption) (by omega) (fun p hp => ?_)⟩; conv => whnf) | (refine ⟨rfl, Rows.idxN (by assumption) (by omega) (fun p y hp hy => ?_)⟩; conv => whnf) | (refine And.intro (show Kd.isBool _ = true from rfl) ?_; conv => whnf) | (refine ⟨rfl, Ints.idx (by assumption) (by omega) (by omega) (fun p hp => ?_)⟩; conv => whnf) | (refine ⟨rfl, Rows.idx (by assumption) (by omega) (by omega) (fun p y hp hy => ?_)⟩; conv => whnf) | (refine HArith.fits (by omega) (by omega) ?_; conv => whnf) | (refine Or.inl (And.intro (show Region.lexB _ _ = true by kernel_rfl) ?_); conv => whnf)))
  refine HIf.dec (fun hlt => ?_) (fun hge => ?_)
  · have hu := anyUp_snoc a i (by omega)
    have hd := anyDown_snoc a i (by omega)
    (conv => whnf)
    refine HIf.split (fun h1 => ?_) (fun h1 => ?_) <;> (conv => whnf) <;> (repeat (first | (refine ⟨rfl, Ints.len (by assumption) ?_⟩; conv => whnf) | (refine ⟨rfl, Rows.len (by assumption) ?_⟩; conv => whnf) | (refine ⟨rfl, HLen.sl ?_⟩; conv => whnf) | (refine ⟨rfl, At.load (by assumption) ?_⟩; conv => whnf) | (refine HIf.yes ?_; conv => whnf) | (refine HIf.no ?_; conv => whnf) | (refine HIf.isT (by assumption) ?_; conv => whnf) | (refine HIf.isF (by assumption) ?_; conv => whnf) | (refine HIf.decT (by assumption) ?_; conv => whnf) | (refine HIf.decF (by assumption) ?_; conv => whnf) | (refine HIf.beqT (by assumption) ?_; conv => whnf) | (refine HIf.beqF (by assumption) ?_; conv => whnf) | (refine HIf.bneT (by assumption) ?_; conv => whnf) | (refine HIf.bneF (by assumption) ?_; conv => whnf) | (refine ⟨rfl, Ints.idxN (by assumption) (by omega) (fun p hp => ?_)⟩; conv => whnf) | (refine ⟨rfl, Rows.idxN (by assumption) (by omega) (fun p y hp hy => ?_)⟩; conv => whnf) | (refine And.intro (show Kd.isBool _ = true from rfl) ?_; conv => whnf) | (refine ⟨rfl, Ints.idx (by assumption) (by omega) (by omega) (fun p hp => ?_)⟩; conv => whnf) | (refine ⟨rfl, Rows.idx (by assumption) (by omega) (by omega) (fun p y hp hy => ?_)⟩; conv => whnf) | (refine HArith.fits (by omega) (by omega) ?_; conv => whnf) | (refine Or.inl (And.intro (show Region.lexB _ _ = true by kernel_rfl) ?_); conv => whnf))) <;> refine HIf.split (fun h3 => ?_) (fun h3 => ?_) <;> (conv => whnf) <;> (repeat (first | (refine ⟨rfl, Ints.len (by assumption) ?_⟩; conv => whnf) | (refine ⟨rfl, Rows.len (by assumption) ?_⟩; conv => whnf) | (refine ⟨rfl, HLen.sl ?_⟩; conv => whnf) | (refine ⟨rfl, At.load (by assumption) ?_⟩; conv => whnf) | (refine HIf.yes ?_; conv => whnf) | (refine HIf.no ?_; conv => whnf) | (refine HIf.isT (by assumption) ?_; conv => whnf) | (refine HIf.isF (by assumption) ?_; conv => whnf) | (refine HIf.decT (by assumption) ?_; conv => whnf) | (refine HIf.decF (by assumption) ?_; conv => whnf) | (refine HIf.beqT (by assumption) ?_; conv => whnf) | (refine HIf.beqF (by assumption) ?_; conv => whnf) | (refine HIf.bneT (by assumption) ?_; conv => whnf) | (refine HIf.bneF (by assumption) ?_; conv => whnf) | (refine ⟨rfl, Ints.idxN (by assumption) (by omega) (fun p hp => ?_)⟩; conv => whnf) | (refine ⟨rfl, Rows.idxN (by assumption) (by omega) (fun p y hp hy => ?_)⟩; conv => whnf) | (refine And.intro (show Kd.isBool _ = true from rfl) ?_; conv => whnf) | (refine ⟨rfl, Ints.idx (by assumption) (by omega) (by omega) (fun p hp => ?_)⟩; conv => whnf) | (refine ⟨rfl, Rows.idx (by assumption) (by omega) (by omega) (fun p y hp hy => ?_)⟩; conv => whnf) | (refine HArith.fits (by omega) (by omega) ?_; conv => whnf) | (refine Or.inl (And.intro (show Region.lexB _ _ = true by kernel_rfl) ?_); conv => whnf)))
    all_goals exact ⟨⟨i + 1, by rw [hu, hd, h1, h3]; rfl, by omega, rfl⟩, by show a.length - (i + 1) < a.length - i; omega⟩
  · have e : i = a.length := by omega
    rw [e, List.take_length]
    (conv => whnf)
    refine ⟨rfl, ?_⟩
    (conv => whnf)
    refine HIf.split (fun h1 => ?_) (fun h1 => ?_)
    · (conv => whnf)
      exact ⟨by rw [rootSign, if_pos h1]; rfl, rfl⟩
    · (conv => whnf)
      refine HIf.split (fun h2 => ?_) (fun h2 => ?_)
      · (conv => whnf)
        exact ⟨by rw [rootSign, if_neg (by rw [h1]; decide), if_pos h2]; rfl, rfl⟩
      · (conv => whnf)
        exact ⟨by rw [rootSign, if_neg (by rw [h1]; decide), if_neg (by rw [h2]; decide)]; rfl, rfl⟩

theorem impl_RootSign (h : Heap) (x : H0) (a : List Int) (hx : Ints h x a) (hal : a.length ≤ 2199023255552) : HCalls dm Try.prog 68 [.s x] h (fun r h' => r = I (rootSign a) ∧ h' = h) := by
  refine calls_of_hFun (m := 0) kd_ok mixed Try.func68 rfl (by kernel_rfl) rfl rfl (of_decide_eq_true rfl) ?_; unfold hFun; (conv => whnf)
  refine ⟨rfl, hx.len ?_⟩
  (conv => whnf)
  refine HLoop.intro [9, 3, 4] [10, 11, 12, 6, 13, 14, 15, 16, 17, 3, 18, 19, 20, 21, 22, 4, 23, 9] (by kernel_rfl) (by kernel_rfl) (fun vs h' => ∃ i : Nat, vs = [I i, B (anyUp (a.take i)), B (anyDown (a.take i))] ∧ i ≤ a.length ∧ h' = h) (fun vs _ => a.length - natAt vs 0) ⟨0, rfl, by omega, rfl⟩ ?_
  rintro vs h' ⟨i, rfl, hi, rfl⟩
  (conv => whnf)
  refine HIf.dec (fun hlt => ?_) (fun hge => ?_)
  · have hu := anyUp_snoc a i (by omega)
    have hd := anyDown_snoc a i (by omega)
    (conv => whnf)
    (repeat (first | (refine ⟨rfl, Ints.len (by assumption) ?_⟩; conv => whnf) | (refine ⟨rfl, Rows.len (by assumption) ?_⟩; conv => whnf) | (refine ⟨rfl, HLen.sl ?_⟩; conv => whnf) | (refine ⟨rfl, At.load (by assumption) ?_⟩; conv => whnf) | (refine HIf.yes ?_; conv => whnf) | (refine HIf.no ?_; conv => whnf) | (refine HIf.isT (by assumption) ?_; conv => whnf) | (refine HIf.isF (by assumption) ?_; conv => whnf) | (refine HIf.decT (by assumption) ?_; conv => whnf) | (refine HIf.decF (by assumption) ?_; conv => whnf) | (refine HIf.beqT (by assumption) ?_; conv => whnf) | (refine HIf.beqF (by assumption) ?_; conv => whnf) | (refine HIf.bneT (by assumption) ?_; conv => whnf) | (refine HIf.bneF (by assumption) ?_; conv => whnf) | (refine ⟨rfl, Ints.idxN (by assumption) (by omega) (fun p hp => ?_)⟩; conv => whnf) | (refine ⟨rfl, Rows.idxN (by assumption) (by omega) (fun p y hp hy => ?_)⟩; conv => whnf) | (refine And.intro (show Kd.isBool _ = true from rfl) ?_; conv => whnf) | (refine ⟨rfl, Ints.idx (by assumption) (by omega) (by omega) (fun p hp => ?_)⟩; conv => whnf) | (refine ⟨rfl, Rows.idx (by assumption) (by omega) (by omega) (fun p y hp hy => ?_)⟩; conv => whnf) | (refine HArith.fits (by omega) (by omega) ?_; conv => whnf) | (refine Or.inl (And.intro (show Region.lexB _ _ = true by kernel_rfl) ?_); conv => whnf)))
    refine HIf.split (fun h1 => ?_) (fun h1 => ?_) <;> (conv => whnf) <;> (repeat (first | (refine ⟨rfl, Ints.len (by assumption) ?_⟩; conv => whnf) | (refine ⟨rfl, Rows.len (by assumption) ?_⟩; conv => whnf) | (refine ⟨rfl, HLen.sl ?_⟩; conv => whnf) | (refine ⟨rfl, At.load (by assumption) ?_⟩; conv => whnf) | (refine HIf.yes ?_; conv => whnf) | (refine HIf.no ?_; conv => whnf) | (refine HIf.isT (by assumption) ?_; conv => whnf) | (refine HIf.isF (by assumption) ?_; conv => whnf) | (refine HIf.decT (by assumption) ?_; conv => whnf) | (refine HIf.decF (by assumption) ?_; conv => whnf) | (refine HIf.beqT (by assumption) ?_; conv => whnf) | (refine HIf.beqF (by assumption) ?_; conv => whnf) | (refine HIf.bneT (by assumption) ?_; conv => whnf) | (refine HIf.bneF (by assumption) ?_; conv => whnf) | (refine ⟨rfl, Ints.idxN (by assumption) (by omega) (fun p hp => ?_)⟩; conv => whnf) | (refine ⟨rfl, Rows.idxN (by assumption) (by omega) (fun p y hp hy => ?_)⟩; conv => whnf) | (refine And.intro (show Kd.isBool _ = true from rfl) ?_; conv => whnf) | (refine ⟨rfl, Ints.idx (by assumption) (by omega) (by omega) (fun p hp => ?_)⟩; conv => whnf) | (refine ⟨rfl, Rows.idx (by assumption) (by omega) (by omega) (fun p y hp hy => ?_)⟩; conv => whnf) | (refine HArith.fits (by omega) (by omega) ?_; conv => whnf) | (refine Or.inl (And.intro (show Region.lexB _ _ = true by kernel_rfl) ?_); conv => whnf))) <;> refine HIf.split (fun h3 => ?_) (fun h3 => ?_) <;> (conv => whnf) <;> (repeat (first | (refine ⟨rfl, Ints.len (by assumption) ?_⟩; conv => whnf) | (refine ⟨rfl, Rows.len (by assumption) ?_⟩; conv => whnf) | (refine ⟨rfl, HLen.sl ?_⟩; conv => whnf) | (refine ⟨rfl, At.load (by assumption) ?_⟩; conv => whnf) | (refine HIf.yes ?_; conv => whnf) | (refine HIf.no ?_; conv => whnf) | (refine HIf.isT (by assumption) ?_; conv => whnf) | (refine HIf.isF (by assumption) ?_; conv => whnf) | (refine HIf.decT (by assumption) ?_; conv => whnf) | (refine HIf.decF (by assumption) ?_; conv => whnf) | (refine HIf.beqT (by assumption) ?_; conv => whnf) | (refine HIf.beqF (by assumption) ?_; conv => whnf) | (refine HIf.bneT (by assumption) ?_; conv => whnf) | (refine HIf.bneF (by assumption) ?_; conv => whnf) | (refine ⟨rfl, Ints.idxN (by assumption) (by omega) (fun p hp => ?_)⟩; conv => whnf) | (refine ⟨rfl, Rows.idxN (by assumption) (by omega) (fun p y hp hy => ?_)⟩; conv => whnf) | (refine And.intro (show Kd.isBool _ = true from rfl) ?_; conv => whnf) | (refine ⟨rfl, Ints.idx (by assumption) (by omega) (by omega) (fun p hp => ?_)⟩; conv => whnf) | (refine ⟨rfl, Rows.idx (by assumption) (by omega) (by omega) (fun p y hp hy => ?_)⟩; conv => whnf) | (refine HArith.fits (by omega) (by omega) ?_; conv => whnf) | (refine Or.inl (And.intro (show Region.lexB _ _ = true by kernel_rfl) ?_); conv => whnf)))
    all_goals exact ⟨⟨i + 1, by rw [hu, hd, h1, h3]; rfl, by omega, rfl⟩, by show a.length - (i + 1) < a.length - i; omega⟩
  · have e : i = a.length := by omega
    rw [e, List.take_length]
    have tl : ∀ (b1 b2 : Bool), anyUp a = b1 → anyDown a = b2 → rootSign a = (if b1 == b2 then (0 : Int) else if b1 then 1 else -1) := fun b1 b2 e1 e2 => by rw [← e1, ← e2]; rfl
    cases h1 : anyUp a <;> cases h2 : anyDown a <;> (conv => whnf) <;> (repeat (first | (refine ⟨rfl, Ints.len (by assumption) ?_⟩; conv => whnf) | (refine ⟨rfl, Rows.len (by assumption) ?_⟩; conv => whnf) | (refine ⟨rfl, HLen.sl ?_⟩; conv => whnf) | (refine ⟨rfl, At.load (by assumption) ?_⟩; conv => whnf) | (refine HIf.yes ?_; conv => whnf) | (refine HIf.no ?_; conv => whnf) | (refine HIf.isT (by assumption) ?_; conv => whnf) | (refine HIf.isF (by assumption) ?_; conv => whnf) | (refine HIf.decT (by assumption) ?_; conv => whnf) | (refine HIf.decF (by assumption) ?_; conv => whnf) | (refine HIf.beqT (by assumption) ?_; conv => whnf) | (refine HIf.beqF (by assumption) ?_; conv => whnf) | (refine HIf.bneT (by assumption) ?_; conv => whnf) | (refine HIf.bneF (by assumption) ?_; conv => whnf) | (refine ⟨rfl, Ints.idxN (by assumption) (by omega) (fun p hp => ?_)⟩; conv => whnf) | (refine ⟨rfl, Rows.idxN (by assumption) (by omega) (fun p y hp hy => ?_)⟩; conv => whnf) | (refine And.intro (show Kd.isBool _ = true from rfl) ?_; conv => whnf) | (refine ⟨rfl, Ints.idx (by assumption) (by omega) (by omega) (fun p hp => ?_)⟩; conv => whnf) | (refine ⟨rfl, Rows.idx (by assumption) (by omega) (by omega) (fun p y hp hy => ?_)⟩; conv => whnf) | (refine HArith.fits (by omega) (by omega) ?_; conv => whnf) | (refine Or.inl (And.intro (show Region.lexB _ _ = true by kernel_rfl) ?_); conv => whnf)))
    all_goals exact ⟨by rw [tl _ _ h1 h2]; rfl, rfl⟩

end Go.Proofs.Ytnooeaemjnmkdaa.Hx

namespace Go.Proofs.Ytnooeaemjnmkdaa.Hx
open Go.RowKit

/-! ### Plain -/

def lexC : List Int → List Int → Int
  | [], [] => 0
  | [], _ :: _ => -1
  | _ :: _, [] => 1
  | x :: a, y :: b => if x < y then -1 else if y < x then 1 else lexC a b

def lexGt : List Int → List Int → Bool
  | x :: a, y :: b => if x = y then lexGt a b else decide (y < x)
  | _, _ => false

def cmpR (a b : List Int) : Int := if heightOf a < heightOf b then -1 else if heightOf b < heightOf a then 1 else lexC b a

def beforeR (a b : List Int) : Bool := if heightOf a = heightOf b then lexGt a b else decide (heightOf a < heightOf b)

theorem lexC_neg : ∀ a b : List Int, lexC b a = - lexC a b
  | [], [] => rfl
  | [], _ :: _ => rfl
  | _ :: _, [] => rfl
  | x :: a, y :: b => by
    have := lexC_neg a b
    simp only [lexC]
    by_cases h1 : x < y
    · rw [if_neg (by omega), if_pos h1, if_pos h1]; rfl
    · by_cases h2 : y < x
      · rw [if_pos h2, if_neg h1, if_pos h2]
      · rw [if_neg h2, if_neg h1, if_neg h1, if_neg h2]; exact this

theorem lexC_trans : ∀ a b c : List Int, lexC a b < 0 → lexC b c < 0 → lexC a c < 0
  | [], [], c, h, _ => by simp [lexC] at h
  | [], _ :: _, [], _, h => by simp [lexC] at h
  | [], _ :: _, _ :: _, _, _ => by simp [lexC]
  | _ :: _, [], _, h, _ => by simp [lexC] at h
  | _ :: _, _ :: _, [], _, h => by simp [lexC] at h
  | x :: a, y :: b, z :: c, h, k => by
    have ih := lexC_trans a b c
    simp only [lexC] at h k ⊢
    by_cases h1 : x < y
    · by_cases k1 : y < z
      · rw [if_pos (by omega)]; decide
      · by_cases k2 : z < y
        · rw [if_neg k1, if_pos k2] at k; omega
        · rw [if_pos (by omega)]; decide
    · by_cases h2 : y < x
      · rw [if_neg h1, if_pos h2] at h; omega
      · rw [if_neg h1, if_neg h2] at h
        have e : x = y := by omega
        subst e
        by_cases k1 : x < z
        · rw [if_pos k1]; decide
        · by_cases k2 : z < x
          · rw [if_neg k1, if_pos k2] at k; omega
          · rw [if_neg k1, if_neg k2] at k ⊢
            exact ih h k

theorem lexC_eq : ∀ a b : List Int, lexC a b = 0 → a = b
  | [], [], _ => rfl
  | [], _ :: _, h => by simp [lexC] at h
  | _ :: _, [], h => by simp [lexC] at h
  | x :: a, y :: b, h => by
    simp only [lexC] at h
    by_cases h1 : x < y
    · rw [if_pos h1] at h; omega
    · by_cases h2 : y < x
      · rw [if_neg h1, if_pos h2] at h; omega
      · rw [if_neg h1, if_neg h2] at h
        rw [lexC_eq a b h, show x = y by omega]

theorem lexC_ntrans (a b c : List Int) (h : ¬ lexC a b < 0) (k : ¬ lexC b c < 0) : ¬ lexC a c < 0 := by
  intro hn
  have e1 := lexC_neg a b
  have e2 := lexC_neg b c
  have e3 := lexC_neg a c
  by_cases h0 : lexC a b = 0
  · rw [lexC_eq a b h0] at hn; omega
  · by_cases k0 : lexC b c = 0
    · rw [← lexC_eq b c k0] at hn; omega
    · have := lexC_trans c b a (by omega) (by omega)
      omega

theorem cmpR_neg (a b : List Int) : cmpR b a = - cmpR a b := by
  have := lexC_neg a b
  unfold cmpR
  by_cases h1 : heightOf a < heightOf b
  · rw [if_neg (by omega), if_pos h1, if_pos h1]; rfl
  · by_cases h2 : heightOf b < heightOf a
    · rw [if_pos h2, if_neg h1, if_pos h2]
    · rw [if_neg h2, if_neg h1, if_neg h1, if_neg h2]; omega

theorem cmpR_lt {a b : List Int} : cmpR a b < 0 ↔ heightOf a < heightOf b ∨ heightOf a = heightOf b ∧ lexC b a < 0 := by
  unfold cmpR
  by_cases h1 : heightOf a < heightOf b
  · rw [if_pos h1]; simp [h1]
  · by_cases h2 : heightOf b < heightOf a
    · rw [if_neg h1, if_pos h2]
      constructor
      · intro h; omega
      · rintro (h | h) <;> omega
    · rw [if_neg h1, if_neg h2]
      constructor
      · intro h; exact Or.inr ⟨by omega, h⟩
      · rintro (h | h)
        · omega
        · exact h.2

theorem cmpR_eq {a b : List Int} (h : cmpR a b = 0) : a = b := by
  unfold cmpR at h
  by_cases h1 : heightOf a < heightOf b
  · rw [if_pos h1] at h; omega
  · by_cases h2 : heightOf b < heightOf a
    · rw [if_neg h1, if_pos h2] at h; omega
    · rw [if_neg h1, if_neg h2] at h
      exact (lexC_eq b a h).symm

theorem cmpR_trans {a b c : List Int} (h : cmpR a b < 0) (k : cmpR b c < 0) : cmpR a c < 0 := by
  rw [cmpR_lt] at *
  rcases h with h | ⟨h, h2⟩ <;> rcases k with k | ⟨k, k2⟩
  · exact Or.inl (by omega)
  · exact Or.inl (by omega)
  · exact Or.inl (by omega)
  · exact Or.inr ⟨by omega, lexC_trans c b a k2 h2⟩

theorem cmpR_ntrans {a b c : List Int} (h : ¬ cmpR a b < 0) (k : ¬ cmpR b c < 0) : ¬ cmpR a c < 0 := by
  intro hn
  have e1 := cmpR_neg a b
  have e2 := cmpR_neg b c
  have e3 := cmpR_neg a c
  by_cases h0 : cmpR a b = 0
  · rw [cmpR_eq h0] at hn; omega
  · by_cases k0 : cmpR b c = 0
    · rw [← cmpR_eq k0] at hn; omega
    · have := cmpR_trans (a := c) (b := b) (c := a) (by omega) (by omega)
      omega

/-- Sorted. -/
def SortedR (L : List (List Int)) : Prop := L.Pairwise (fun a b => ¬ cmpR b a < 0)

theorem sortedR_one {A B : List (List Int)} (hA : SortedR A) (hB : SortedR B) (p : A.Perm B) : A = B :=
  List.Perm.eq_of_pairwise (le := fun a b => ¬ cmpR b a < 0) (fun a b _ _ h k => by
    have := cmpR_neg a b
    exact cmpR_eq (by omega)) hA hB p

theorem lexGt_lexC : ∀ a b : List Int, a.length = b.length → (lexGt a b = true ↔ lexC b a < 0)
  | [], [], _ => by simp [lexGt, lexC]
  | [], _ :: _, h => by simp at h
  | _ :: _, [], h => by simp at h
  | x :: a, y :: b, h => by
    have ih := lexGt_lexC a b (by simpa using h)
    simp only [lexGt, lexC]
    by_cases h1 : y < x
    · rw [if_neg (by omega), if_pos h1]; simp [h1]
    · by_cases h2 : x < y
      · rw [if_neg (by omega), if_neg h1, if_pos h2]; simp [h1]
      · rw [if_pos (by omega), if_neg h1, if_neg h2]; exact ih

theorem beforeR_cmpR {a b : List Int} (h : a.length = b.length) : beforeR a b = true ↔ cmpR a b < 0 := by
  rw [cmpR_lt]
  unfold beforeR
  by_cases e : heightOf a = heightOf b
  · rw [if_pos e, lexGt_lexC a b h]
    constructor
    · intro k; exact Or.inr ⟨e, k⟩
    · rintro (k | k)
      · omega
      · exact k.2
  · rw [if_neg e]
    simp [e]

/-- One root put in its place. -/
def putR (r : List Int) : List (List Int) → List (List Int)
  | [] => [r]
  | a :: t => if beforeR r a then r :: a :: t else a :: putR r t

theorem putR_perm (r : List Int) : ∀ L, (putR r L).Perm (r :: L)
  | [] => List.Perm.refl _
  | a :: t => by
    simp only [putR]
    split
    · exact List.Perm.refl _
    · exact ((putR_perm r t).cons a).trans (List.Perm.swap r a t)

theorem putR_sorted {n : Nat} {r : List Int} (hr : r.length = n) : ∀ {L : List (List Int)}, (∀ a ∈ L, a.length = n) → SortedR L → SortedR (putR r L)
  | [], _, _ => by simp [putR, SortedR]
  | a :: t, hn, hs => by
    have hs' := List.pairwise_cons.1 hs
    have hb := beforeR_cmpR (a := r) (b := a) (hr.trans (hn a (by simp)).symm)
    simp only [putR]
    split
    · rename_i h
      have hlt := hb.1 h
      refine List.pairwise_cons.2 ⟨fun b hb2 hlt2 => ?_, hs⟩
      have h3 := cmpR_neg r a
      rcases List.mem_cons.1 hb2 with rfl | hb2
      · omega
      · exact hs'.1 b hb2 (cmpR_trans hlt2 hlt)
    · rename_i h
      have hge : ¬ cmpR r a < 0 := fun k => h (hb.2 k)
      refine List.pairwise_cons.2 ⟨fun b hb2 => ?_, putR_sorted hr (fun x hx => hn x (by simp [hx])) hs'.2⟩
      rcases List.mem_cons.1 ((putR_perm r t).mem_iff.1 hb2) with rfl | hb2
      · exact hge
      · exact hs'.1 b hb2

def insR (L : List (List Int)) : List (List Int) := L.foldl (fun o r => putR r o) []

theorem insR_snoc (L : List (List Int)) (k : Nat) (hk : k < L.length) : insR (L.take (k + 1)) = putR (L.getD k []) (insR (L.take k)) := by
  rw [List.take_succ_eq_append_getElem hk]
  unfold insR
  rw [List.foldl_append]
  simp [List.getD, hk]

theorem insR_perm (L : List (List Int)) : (insR L).Perm L := by
  have main : ∀ (L o : List (List Int)), (L.foldl (fun o r => putR r o) o).Perm (o ++ L) := by
    intro L
    induction L with
    | nil => intro o; simp
    | cons r t ih =>
      intro o
      refine (ih _).trans ?_
      refine ((putR_perm r o).append_right t).trans ?_
      exact List.perm_middle.symm
  have := main L []
  rw [List.nil_append] at this
  exact this

theorem insR_sorted {n : Nat} (L : List (List Int)) (hn : ∀ a ∈ L, a.length = n) : SortedR (insR L) := by
  have main : ∀ (L o : List (List Int)), (∀ a ∈ L, a.length = n) → (∀ a ∈ o, a.length = n) → SortedR o → SortedR (L.foldl (fun o r => putR r o) o) := by
    intro L
    induction L with
    | nil => intro o _ _ h; exact h
    | cons r t ih =>
      intro o h1 h2 h3
      refine ih _ (fun a ha => h1 a (by simp [ha])) (fun a ha => ?_) (putR_sorted (h1 r (by simp)) h2 h3)
      rcases List.mem_cons.1 ((putR_perm r o).mem_iff.1 ha) with rfl | ha
      · exact h1 _ (by simp)
      · exact h2 a ha
  exact main L [] hn (by simp) List.Pairwise.nil

theorem insR_length (L : List (List Int)) : (insR L).length = L.length := (insR_perm L).length_eq

/-- What the sort leaves is what the insertions leave. -/
theorem sorted_insR {n : Nat} {L : List (List Int)} (hn : ∀ a ∈ L, a.length = n) {σ : List Nat} (hp : σ.Perm (List.range L.length)) (hs : σ.Pairwise (fun i j => ¬ cmpR (L.getD j []) (L.getD i []) < 0)) : σ.map (fun i => L.getD i []) = insR L := by
  refine sortedR_one (List.pairwise_map.2 hs) (insR_sorted L hn) ?_
  refine (hp.map _).trans (List.Perm.trans ?_ (insR_perm L).symm)
  have : (List.range L.length).map (fun i => L.getD i []) = L := by
    apply List.ext_getElem (by simp)
    intro i h1 h2
    simp [List.getD, h2]
  rw [this]

/-! ### Over rows -/

/-- A slice of slices: its own row is of number b or more, its parts lie in rows of which S holds. -/
def MatIn (b : Nat) (S : Nat → Prop) (h : Heap) (z : H0) (T : List (List Int)) : Prop := ∃ r ρ, z = .sl r 0 T.length ∧ b ≤ r ∧ (∀ i, i < T.length → S (ρ i)) ∧ MatAt h r ρ T

theorem MatIn.none (h : Heap) (S : Nat → Prop) : MatIn h.length S (h ++ [Row.own []]) (.sl h.length 0 0) [] :=
  ⟨h.length, fun _ => 0, rfl, Nat.le_refl _, fun i hi => by simp at hi, ⟨[], get_new _ _, Nat.le_refl _, fun i hi => by simp at hi⟩, fun i hi => by simp at hi, fun i hi => by simp at hi, fun i j _ hj => by simp at hj⟩

theorem MatAt.lt {h : Heap} {r : Nat} {ρ : Nat → Nat} {L : List (List Int)} (m : MatAt h r ρ L) : r < h.length ∧ ∀ i, i < L.length → ρ i < h.length :=
  ⟨by obtain ⟨cs, g, _⟩ := m.outer; exact get_lt g, fun i hi => by obtain ⟨t, g⟩ := m.inner i hi; exact get_lt g⟩

theorem MatAt.ext {h h' : Heap} {r : Nat} {ρ : Nat → Nat} {L : List (List Int)} (m : MatAt h r ρ L) (E : Ext h h') : MatAt h' r ρ L :=
  m.move (E.2 _ m.lt.1) (fun i hi => E.2 _ (m.lt.2 i hi))

theorem MatIn.ext {b : Nat} {S : Nat → Prop} {h h' : Heap} {z : H0} {T : List (List Int)} (M : MatIn b S h z T) (E : Ext h h') : MatIn b S h' z T := by
  obtain ⟨r, ρ, g1, g2, g3, m⟩ := M
  exact ⟨r, ρ, g1, g2, g3, m.ext E⟩

theorem MatIn.weaken {b : Nat} {S S' : Nat → Prop} {h : Heap} {z : H0} {T : List (List Int)} (M : MatIn b S h z T) (k : ∀ q, q < h.length → S q → S' q) : MatIn b S' h z T := by
  obtain ⟨r, ρ, g1, g2, g3, m⟩ := M
  exact ⟨r, ρ, g1, g2, fun i hi => k _ (m.lt.2 i hi) (g3 i hi), m⟩

theorem MatIn.own {b c : Nat} {S : Nat → Prop} {h : Heap} {z : H0} {T : List (List Int)} (M : MatIn b S h z T) (hc : c ≤ b) (k : ∀ q, q < h.length → S q → c ≤ q) : OwnM c h.length h z T := by
  obtain ⟨r, ρ, g1, g2, g3, m⟩ := M
  exact ⟨r, ρ, g1, by omega, m.lt.1, fun i hi => ⟨k _ (m.lt.2 i hi) (g3 i hi), m.lt.2 i hi⟩, m⟩

theorem MatIn.rows {b : Nat} {S : Nat → Prop} {h : Heap} {z : H0} {T : List (List Int)} (M : MatIn b S h z T) : Rows h z T := by
  obtain ⟨r, ρ, rfl, g2, g3, m⟩ := M
  exact m.rows

/-- A slice of ints that is there, in a row of which S does not hold, appended to a slice of such slices. -/
theorem HApp.snocS {hb h h2 : Heap} {S : Nat → Prop} {z y : H0} {L : List (List Int)} {l : List Int} {q : Nat} {K : HV → Heap → Prop} (E : Ext hb h) (M : MatIn hb.length S h z L) (E2 : Ext h h2) (F : OwnR q h2 y l) (hq : ¬ S q) (hqr : q < hb.length ∨ h.length ≤ q) (hl : L.length < 2199023255552)
    (hK : ∀ h' z', Ext hb h' → h2.length ≤ h'.length → MatIn hb.length (fun x => S x ∨ x = q) h' z' (L ++ [l]) → K (.s z') h') : HApp (h2 ++ [.own [y]]) (.s z) (.s (.sl h2.length 0 1)) K := by
  have l1 := E.1
  have l2 := E2.1
  obtain ⟨r, ρ, rfl, hr1, hS, m⟩ := M
  obtain ⟨hr2, hρ⟩ := m.lt
  have hq2 := F.lt
  obtain ⟨t, rfl, hqo⟩ := F
  obtain ⟨cs, ho, hcl, hoc⟩ := m.outer
  refine ⟨[.sl q 0 l.length], ?_, by simp [H0.one], cs, rfl, (Ext.push h2 _).row (E2.row ho), hcl, Or.inl ⟨by simp; omega, ?_⟩⟩
  · have := Shows.own h2.length 0 1 _ (get_new h2 (.own [.sl q 0 l.length])) (by simp)
    simpa using this
  have e1 : L.length + [H0.sl q 0 l.length].length = (L ++ [l]).length := by simp
  rw [e1]
  have old : ∀ p, p < h2.length → p ≠ r → ((h2 ++ [Row.own [.sl q 0 l.length]]).set r .gone ++ [Row.own (cs.take L.length ++ [.sl q 0 l.length])])[p]? = h2[p]? := fun p hp hn => by
    rw [List.getElem?_append_left (by simp; omega), List.getElem?_set_ne (Ne.symm hn), List.getElem?_append_left hp]
  have gd1 : ∀ i, i < L.length → (L ++ [l]).getD i [] = L.getD i [] := fun i hi => by
    simp only [List.getD]
    rw [List.getElem?_append_left hi]
  have gd2 : (L ++ [l]).getD L.length [] = l := by simp [List.getD]
  have hE : Ext hb ((h2 ++ [Row.own [.sl q 0 l.length]]).set r .gone ++ [Row.own (cs.take L.length ++ [.sl q 0 l.length])]) := ((((E.trans E2).pushed _).set hr1 _).pushed _)
  have hlen : ((h2 ++ [Row.own [.sl q 0 l.length]]).set r .gone ++ [Row.own (cs.take L.length ++ [.sl q 0 l.length])]).length = h2.length + 2 := by simp
  have hqr2 : q ≠ r := by omega
  refine hK _ _ hE (by rw [hlen]; omega) ⟨h2.length + 1, fun i => if i < L.length then ρ i else q, by simp, by omega, fun i hi => ?_, ⟨cs.take L.length ++ [.sl q 0 l.length], ?_, by simp; omega, fun i hi => ?_⟩, fun i hi => ?_, fun i hi => ?_, fun i j hij hj => ?_⟩
  · by_cases hi2 : i < L.length
    · simp only [hi2, if_true]
      exact Or.inl (hS i hi2)
    · show S (if i < L.length then ρ i else q) ∨ (if i < L.length then ρ i else q) = q
      rw [if_neg hi2]
      exact Or.inr rfl
  · rw [List.getElem?_append_right (by simp)]
    simp
  · by_cases hi2 : i < L.length
    · rw [List.getElem?_append_left (by simp; omega), List.getElem?_take_of_lt hi2, hoc i hi2, gd1 i hi2]
      simp [hi2]
    · have e : i = L.length := by simp at hi; omega
      subst e
      rw [gd2, List.getElem?_append_right (by simp; omega)]
      have : L.length - (cs.take L.length).length = 0 := by simp; omega
      rw [this]
      simp
  · by_cases hi2 : i < L.length
    · obtain ⟨t2, ht2⟩ := m.inner i hi2
      have hb2 := hρ i hi2
      have hne := m.ne i hi2
      refine ⟨t2, ?_⟩
      rw [gd1 i hi2, if_pos hi2, old _ (by omega) hne]
      exact E2.row ht2
    · have e : i = L.length := by simp at hi; omega
      subst e
      refine ⟨t, ?_⟩
      rw [gd2, if_neg (by omega), old _ (by omega) (by omega)]
      exact hqo
  · by_cases hi2 : i < L.length
    · have := hρ i hi2
      simp only [hi2, if_true]
      omega
    · simp only [hi2, if_false]
      omega
  · have hj' : j ≤ L.length := by simp at hj; omega
    have hi2 : i < L.length := by omega
    by_cases hj2 : j < L.length
    · simp only [hi2, hj2, if_true]
      exact m.inj i j hij hj2
    · simp only [hi2, hj2, if_true, if_false]
      intro e
      exact hq (by rw [← e]; exact hS i hi2)

theorem MatAt.idx {h : Heap} {r : Nat} {ρ : Nat → Nat} {L : List (List Int)} (m : MatAt h r ρ L) {n : Nat} (h1 : n < L.length) {k : IntKind} {K : HV → Prop} (hK : ∀ p, At h p (.sl (ρ n) 0 (L.getD n []).length) → K (.s p)) :
    HIdx h (.s (.sl r 0 L.length)) (.s (.pl (.int k (n : Int)))) K := by
  obtain ⟨cs, g1, g2, g3⟩ := m.outer
  refine HIdx.sl (by omega) (by omega) (hK _ ⟨r, _, _, cs, rfl, g1, rfl, ?_⟩)
  rw [Int.toNat_natCast, Nat.zero_add]
  exact g3 n h1

theorem MatAt.inner' {h : Heap} {r : Nat} {ρ : Nat → Nat} {L : List (List Int)} (m : MatAt h r ρ L) {n : Nat} (h1 : n < L.length) : OwnR (ρ n) h (.sl (ρ n) 0 (L.getD n []).length) (L.getD n []) := by
  obtain ⟨t, ht⟩ := m.inner n h1
  exact ⟨t, rfl, ht⟩

theorem iEq' {a b : Int} (h : a = b) : I a = I b := by rw [h]

end Go.Proofs.Ytnooeaemjnmkdaa.Hx

namespace Go.Proofs.Ytnooeaemjnmkdaa.Hx
open Go.RowKit

/-! ### Words by length, then by letters -/

def cmpW (a b : List Int) : Int := if a.length < b.length then -1 else if b.length < a.length then 1 else lexC a b

theorem cmpW_neg (a b : List Int) : cmpW b a = - cmpW a b := by
  have := lexC_neg a b
  unfold cmpW
  by_cases h1 : a.length < b.length
  · rw [if_neg (by omega), if_pos h1, if_pos h1]; rfl
  · by_cases h2 : b.length < a.length
    · rw [if_pos h2, if_neg h1, if_pos h2]
    · rw [if_neg h2, if_neg h1, if_neg h1, if_neg h2]; omega
theorem cmpW_lt {a b : List Int} : cmpW a b < 0 ↔ a.length < b.length ∨ a.length = b.length ∧ lexC a b < 0 := by
  unfold cmpW
  by_cases h1 : a.length < b.length
  · rw [if_pos h1]; simp [h1]
  · by_cases h2 : b.length < a.length
    · rw [if_neg h1, if_pos h2]
      constructor
      · intro h; omega
      · rintro (h | h) <;> omega
    · rw [if_neg h1, if_neg h2]
      constructor
      · intro h; exact Or.inr ⟨by omega, h⟩
      · rintro (h | h)
        · omega
        · exact h.2
theorem cmpW_eq {a b : List Int} (h : cmpW a b = 0) : a = b := by
  unfold cmpW at h
  by_cases h1 : a.length < b.length
  · rw [if_pos h1] at h; omega
  · by_cases h2 : b.length < a.length
    · rw [if_neg h1, if_pos h2] at h; omega
    · rw [if_neg h1, if_neg h2] at h
      exact lexC_eq a b h
theorem cmpW_self (a : List Int) : cmpW a a = 0 := by
  have := cmpW_neg a a
  omega
theorem cmpW_trans {a b c : List Int} (h : cmpW a b < 0) (k : cmpW b c < 0) : cmpW a c < 0 := by
  rw [cmpW_lt] at *
  rcases h with h | ⟨h, h2⟩ <;> rcases k with k | ⟨k, k2⟩
  · exact Or.inl (by omega)
  · exact Or.inl (by omega)
  · exact Or.inl (by omega)
  · exact Or.inr ⟨by omega, lexC_trans a b c h2 k2⟩

def SortedW (L : List (List Int)) : Prop := L.Pairwise (fun a b => cmpW a b < 0)

theorem SortedW.nodup {L : List (List Int)} (h : SortedW L) : L.Nodup := List.Pairwise.imp (fun {a b} hab e => by
  subst e
  rw [cmpW_self] at hab
  omega) h

theorem sortedW_one {A B : List (List Int)} (hA : SortedW A) (hB : SortedW B) (h : ∀ w, w ∈ A ↔ w ∈ B) : A = B :=
  List.Perm.eq_of_pairwise (le := fun a b => cmpW a b < 0) (fun a b _ _ h k => by
    have := cmpW_neg a b
    omega) hA hB ((List.perm_ext_iff_of_nodup hA.nodup hB.nodup).2 h)

/-- One word put in its place, unless it is there. -/
def putW (r : List Int) : List (List Int) → List (List Int)
  | [] => [r]
  | a :: t => if cmpW r a = 0 then a :: t else if cmpW r a < 0 then r :: a :: t else a :: putW r t

theorem mem_putW (r w : List Int) : ∀ L, w ∈ putW r L ↔ w = r ∨ w ∈ L
  | [] => by simp [putW]
  | a :: t => by
    have ih := mem_putW r w t
    simp only [putW]
    split
    · rename_i h
      have := cmpW_eq h
      subst this
      simp
    · split
      · simp
      · simp only [List.mem_cons, ih]
        constructor
        · rintro (h | h | h)
          · exact Or.inr (Or.inl h)
          · exact Or.inl h
          · exact Or.inr (Or.inr h)
        · rintro (h | h | h)
          · exact Or.inr (Or.inl h)
          · exact Or.inl h
          · exact Or.inr (Or.inr h)

theorem putW_sorted (r : List Int) : ∀ {L : List (List Int)}, SortedW L → SortedW (putW r L)
  | [], _ => by simp [putW, SortedW]
  | a :: t, hs => by
    have hs' := List.pairwise_cons.1 hs
    simp only [putW]
    split
    · exact hs
    · rename_i h0
      split
      · rename_i h
        refine List.pairwise_cons.2 ⟨fun b hb => ?_, hs⟩
        rcases List.mem_cons.1 hb with rfl | hb
        · exact h
        · exact cmpW_trans h (hs'.1 b hb)
      · rename_i h
        refine List.pairwise_cons.2 ⟨fun b hb => ?_, putW_sorted r hs'.2⟩
        rcases (mem_putW r b t).1 hb with rfl | hb
        · have := cmpW_neg a b
          omega
        · exact hs'.1 b hb

theorem putW_le (r : List Int) : ∀ L, L.length ≤ (putW r L).length ∧ (putW r L).length ≤ L.length + 1
  | [] => by simp [putW]
  | a :: t => by
    have ih := putW_le r t
    simp only [putW]
    split
    · simp
    · split
      · simp
      · simp only [List.length_cons]; omega

def insW (L : List (List Int)) : List (List Int) := L.foldl (fun o r => putW r o) []

theorem insW_snoc (L : List (List Int)) (k : Nat) (hk : k < L.length) : insW (L.take (k + 1)) = putW (L.getD k []) (insW (L.take k)) := by
  rw [List.take_succ_eq_append_getElem hk]
  unfold insW
  rw [List.foldl_append]
  simp [List.getD, hk]

theorem insW_facts (L : List (List Int)) : SortedW (insW L) ∧ (∀ w, w ∈ insW L ↔ w ∈ L) ∧ (insW L).length ≤ L.length := by
  have main : ∀ (L o : List (List Int)), SortedW o → SortedW (L.foldl (fun o r => putW r o) o) ∧ (∀ w, w ∈ L.foldl (fun o r => putW r o) o ↔ w ∈ o ∨ w ∈ L) ∧ (L.foldl (fun o r => putW r o) o).length ≤ o.length + L.length := by
    intro L
    induction L with
    | nil => intro o h; exact ⟨h, by simp, by simp⟩
    | cons r t ih =>
      intro o h
      obtain ⟨h1, h2, h3⟩ := ih (putW r o) (putW_sorted r h)
      have := putW_le r o
      refine ⟨h1, fun w => ?_, by simp only [List.foldl_cons, List.length_cons]; omega⟩
      rw [List.foldl_cons, h2, mem_putW]
      simp only [List.mem_cons]
      constructor
      · rintro ((h | h) | h)
        · exact Or.inr (Or.inl h)
        · exact Or.inl h
        · exact Or.inr (Or.inr h)
      · rintro (h | h | h)
        · exact Or.inl (Or.inr h)
        · exact Or.inl (Or.inl h)
        · exact Or.inr h
  obtain ⟨h1, h2, h3⟩ := main L [] List.Pairwise.nil
  refine ⟨h1, fun w => ?_, ?_⟩
  · rw [insW, h2]; simp
  · rw [insW]; simpa using h3

/-! ### All reduced words -/

def spellW (c : List (List Int)) : Nat → List Int → List (List Int)
  | 0, _ => [[]]
  | n + 1, v => (descs v v.length).flatMap fun i => (spellW c n (reflW c i.toNat v)).map (i :: ·)

theorem mem_descs {v : List Int} {k : Nat} {i : Int} : i ∈ descs v k ↔ 0 ≤ i ∧ i < k ∧ v.getD i.toNat 0 < 0 := by
  unfold descs
  simp only [List.mem_map, List.mem_filter, List.mem_range, decide_eq_true_eq]
  constructor
  · rintro ⟨j, ⟨h1, h2⟩, rfl⟩
    exact ⟨by omega, by omega, by simpa using h2⟩
  · rintro ⟨h1, h2, h3⟩
    exact ⟨i.toNat, ⟨by omega, h3⟩, by omega⟩

theorem descs_sorted (v : List Int) (k : Nat) : (descs v k).Pairwise (· < ·) := by
  unfold descs
  rw [List.pairwise_map]
  refine List.Pairwise.imp ?_ (List.Pairwise.filter _ List.pairwise_lt_range)
  intro a b h
  omega

theorem spell_mem {c : List (List Int)} (hC : Cartan c) : ∀ (n : Nat) (v : List Int), PlayL c n v → n ≤ 29 → ∀ w, w ∈ spellW c n v ↔ Red c n v w
  | 0, v, P, _, w => by
    have h0 := nf_image hC 0 v 0 P (by omega) (by omega)
    rw [nf_zero] at h0
    constructor
    · intro h
      have e : w = [] := by simpa [spellW] using h
      subst e
      exact ⟨rfl, rfl, h0⟩
    · intro h
      have e : w = [] := List.eq_nil_of_length_eq_zero h.1
      rw [e]
      simp [spellW]
  | n + 1, v, P, hn, w => by
    have hvl := P.1
    rw [spellW]
    simp only [List.mem_flatMap, List.mem_map]
    constructor
    · rintro ⟨i, hi, u, hu, rfl⟩
      obtain ⟨h1, h2, h3⟩ := mem_descs.1 hi
      have hp : isPoint c i = true := by simp [isPoint, inRange]; omega
      obtain ⟨m, e, Q⟩ := P.down hC (by omega) (i := i.toNat) (by omega) h3
      have e2 : m = n := by omega
      subst e2
      exact Red.cons hC P (by omega) hp h3 ((spell_mem hC m _ Q (by omega) u).1 hu)
    · intro R
      cases w with
      | nil => have := R.1; simp at this
      | cons i u =>
        obtain ⟨hp, h3, Q, R'⟩ := R.tail hC P hn
        have p1 := point_of hp
        exact ⟨i, mem_descs.2 ⟨by omega, by omega, h3⟩, u, (spell_mem hC n _ Q (by omega) u).2 R', rfl⟩

theorem lexC_cons (i : Int) (a b : List Int) : lexC (i :: a) (i :: b) = lexC a b := by simp [lexC]

theorem spell_sorted {c : List (List Int)} (hC : Cartan c) : ∀ (n : Nat) (v : List Int), PlayL c n v → n ≤ 29 → SortedW (spellW c n v)
  | 0, v, P, _ => by simp [spellW, SortedW]
  | n + 1, v, P, hn => by
    have hvl := P.1
    have down : ∀ i ∈ descs v v.length, PlayL c n (reflW c i.toNat v) := fun i hi => by
      obtain ⟨h1, h2, h3⟩ := mem_descs.1 hi
      obtain ⟨m, e, Q⟩ := P.down hC (by omega) (i := i.toNat) (by omega) h3
      have e2 : m = n := by omega
      subst e2
      exact Q
    have len : ∀ i ∈ descs v v.length, ∀ u ∈ spellW c n (reflW c i.toNat v), u.length = n := fun i hi u hu => ((spell_mem hC n _ (down i hi) (by omega) u).1 hu).1
    unfold SortedW
    rw [spellW, List.pairwise_flatMap]
    refine ⟨fun i hi => ?_, ?_⟩
    · rw [List.pairwise_map]
      refine List.Pairwise.imp_of_mem ?_ (spell_sorted hC n _ (down i hi) (by omega))
      intro a b ha hb h
      rw [cmpW_lt] at h ⊢
      rcases h with h | h
      · exact Or.inl (by simpa using h)
      · exact Or.inr ⟨by simpa using h.1, by rw [lexC_cons]; exact h.2⟩
    · refine List.Pairwise.imp_of_mem ?_ (descs_sorted v v.length)
      intro i j hi hj hij x hx y hy
      obtain ⟨a, ha, rfl⟩ := List.mem_map.1 hx
      obtain ⟨b, hb, rfl⟩ := List.mem_map.1 hy
      rw [cmpW_lt]
      refine Or.inr ⟨by simp [len i hi a ha, len j hj b hb], ?_⟩
      simp [lexC, hij]

theorem nodup_le : ∀ {A B : List (List Int)}, A.Nodup → (∀ x ∈ A, x ∈ B) → A.length ≤ B.length
  | [], _, _, _ => by simp
  | a :: A, B, hn, h => by
    have hn' := List.nodup_cons.1 hn
    have ha := h a (by simp)
    have ih := nodup_le (A := A) (B := B.erase a) hn'.2 fun x hx => (List.mem_erase_of_ne (fun e => hn'.1 (by rw [← e]; exact hx))).2 (h x (by simp [hx]))
    have hl := List.length_erase_of_mem ha
    have hp : 0 < B.length := List.length_pos_of_mem ha
    simp only [List.length_cons]
    omega

/-- What a search by braid moves has found so far. -/
structure Found (c : List (List Int)) (n : Nat) (v x : List Int) (Q : List (List Int)) : Prop where
  red : ∀ q ∈ Q, Red c n v q
  nodup : Q.Nodup
  head : x ∈ Q

theorem Found.full {c : List (List Int)} (hC : Cartan c) {n : Nat} {v x : List Int} {Q : List (List Int)} (P : PlayL c n v) (hn : n ≤ 15) (F : Found c n v x Q) (h : ∀ q ∈ Q, ∀ k : Nat, brOk c q k = true → braid c q k ∈ Q) : insW Q = spellW c n v := by
  obtain ⟨h1, h2, _⟩ := insW_facts Q
  refine sortedW_one h1 (spell_sorted hC n v P (by omega)) fun w => ?_
  rw [h2, spell_mem hC n v P (by omega)]
  refine ⟨F.red w, fun R => conn_closed (fun q hq b hb => ?_) F.head (conn_all hC n v P (by omega) x w (F.red x F.head) R)⟩
  have R := F.red q hq
  have hw : isWord c q = true := by
    simp only [isWord, Bool.and_eq_true, decide_eq_true_eq]
    exact ⟨⟨(isCartan_iff c).2 hC, by rw [R.1]; exact hn⟩, R.2.1⟩
  obtain ⟨k, _, hk, e⟩ := braid_of_br hw hb
  rw [← e]
  exact h q hq k hk

theorem Found.step {c : List (List Int)} {n : Nat} {v x : List Int} {Q : List (List Int)} (F : Found c n v x Q) (hn : n ≤ 31) {q : List Int} (hq : q ∈ Q) {k : Nat} (hk : brOk c q k = true) (hy : braid c q k ∉ Q) : Found c n v x (Q ++ [braid c q k]) := by
  refine ⟨fun w hw => ?_, ?_, by simp [F.head]⟩
  · rcases List.mem_append.1 hw with hw | hw
    · exact F.red w hw
    · have e : w = braid c q k := by simpa using hw
      rw [e]
      exact (br_of_braid hk).red hn (F.red q hq)
  · rw [List.nodup_append]
    refine ⟨F.nodup, by simp, fun a ha b hb => ?_⟩
    have e : b = braid c q k := by simpa using hb
    rw [e]
    exact fun e => hy (by rw [← e]; exact ha)

theorem Found.le {c : List (List Int)} (hC : Cartan c) {n : Nat} {v x : List Int} {Q : List (List Int)} (P : PlayL c n v) (hn : n ≤ 29) (F : Found c n v x Q) : Q.length ≤ (spellW c n v).length :=
  nodup_le F.nodup fun q hq => (spell_mem hC n v P hn q).2 (F.red q hq)

/-! ### The answer -/

def redAll (c : List (List Int)) (w : List Int) : List (List Int) := spellW c (normF c w).length (imageOf c w)
def redOk (c : List (List Int)) (w : List Int) : Bool := isWord c w && decide ((redAll c w).length ≤ 120)
def reducedWords (c : List (List Int)) (w : List Int) : List (List Int) := if redOk c w then redAll c w else []

theorem normF_red {c : List (List Int)} {w : List Int} (h : isWord c w = true) : PlayL c (normF c w).length (imageOf c w) ∧ (normF c w).length ≤ 15 ∧ Red c (normF c w).length (imageOf c w) (normF c w) := by
  obtain ⟨hC, hl, hw⟩ := word_cartan h
  obtain ⟨n, hn, P⟩ := play_image hC hw (by omega)
  have e : (normF c w).length = n := nf_len hC n _ 31 P (by omega) (by omega)
  refine ⟨by rw [e]; exact P, by omega, rfl, normF_letters hC hw (by omega), normF_image hC hw (by omega)⟩

theorem redOk_off {c : List (List Int)} {w : List Int} (h : isWord c w = false) : redOk c w = false := by simp [redOk, h]
theorem redOk_over {c : List (List Int)} {w : List Int} (h : 120 < (redAll c w).length) : redOk c w = false := by
  have : decide ((redAll c w).length ≤ 120) = false := decide_eq_false (by omega)
  simp [redOk, this]
theorem redOk_on {c : List (List Int)} {w : List Int} (h : isWord c w = true) (h2 : (redAll c w).length ≤ 120) : redOk c w = true := by simp [redOk, h, h2]
theorem reducedWords_off {c : List (List Int)} {w : List Int} (h : redOk c w = false) : reducedWords c w = [] := by simp [reducedWords, h]
theorem reducedWords_on {c : List (List Int)} {w : List Int} (h : redOk c w = true) : reducedWords c w = redAll c w := by simp [reducedWords, h]

end Go.Proofs.Ytnooeaemjnmkdaa.Hx
