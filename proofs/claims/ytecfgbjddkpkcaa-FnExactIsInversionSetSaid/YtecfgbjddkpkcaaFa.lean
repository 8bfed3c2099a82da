
/-
  Contracts of small functions over one slice of ints: SignOf, HeightOf, SquareFree, RootSign, each as the program has it and as the reference has it.
-/
import Derived.Test.YtecfgbjddkpkcaaLa
namespace Go.Proofs.Ytecfgbjddkpkcaa.Hx
open Go.RowKit
variable {dm : Bool}

def signOf (a : List Int) : Int := if (a.length : Int).tmod 2 = 0 then 1 else -1

def heightOf (a : List Int) : Int := a.foldl (fun s x => IntKind.i64.wrap (s + x)) 0

theorem heightOf_snoc (a : List Int) (i : Nat) (hi : i < a.length) : heightOf (a.take (i + 1)) = IntKind.i64.wrap (heightOf (a.take i) + a.getD i 0) := by
  rw [List.take_succ_eq_append_getElem hi]
  unfold heightOf
  rw [List.foldl_append]
  simp [List.getD, hi]

/-- No two neighbours are equal. -/
def sqFree (a : List Int) : Bool := (List.range a.length).all fun j => decide (j = 0) || !(a.getD j 0 == a.getD (j - 1) 0)

def anyUp (a : List Int) : Bool := a.any fun n => decide (n > 0)
def anyDown (a : List Int) : Bool := a.any fun n => decide (n < 0)
def rootSign (a : List Int) : Int := if anyUp a == anyDown a then 0 else if anyUp a then 1 else -1

theorem anyUp_snoc (a : List Int) (i : Nat) (hi : i < a.length) : anyUp (a.take (i + 1)) = (anyUp (a.take i) || decide (a.getD i 0 > 0)) := by
  rw [List.take_succ_eq_append_getElem hi]
  unfold anyUp
  rw [List.any_append]
  simp [List.getD, hi]

theorem anyDown_snoc (a : List Int) (i : Nat) (hi : i < a.length) : anyDown (a.take (i + 1)) = (anyDown (a.take i) || decide (a.getD i 0 < 0)) := by
  rw [List.take_succ_eq_append_getElem hi]
  unfold anyDown
  rw [List.any_append]
  simp [List.getD, hi]

theorem spec_RootSign (h : Heap) (x : H0) (a : List Int) (hx : Ints h x a) (hal : a.length ≤ 2199023255552) : HCalls dm Try.prog 62 [.s x] h (fun r h' => r = I (rootSign a) ∧ h' = h) := by
  refine calls_of_hFun (m := 0) kd_ok mixed Try.func62 rfl (by kernel_rfl) rfl rfl (of_decide_eq_true rfl) ?_; unfold hFun; (conv => whnf)
  refine HLoop.intro [5, 3, 4] [6, 7, 8, 9, 12, 13, 14, 15, 16, 17, 18, 19, 3, 20, 21, 22, 23, 24, 25, 26, 27, 4, 10, 11, 5] (by kernel_rfl) (by kernel_rfl) (fun vs h' => ∃ i : Nat, vs = [I i, B (anyUp (a.take i)), B (anyDown (a.take i))] ∧ i ≤ a.length ∧ h' = h) (fun vs _ => a.length - natAt vs 0) ⟨0, rfl, by omega, rfl⟩ ?_
  rintro vs h' ⟨i, rfl, hi, rfl⟩
  (conv => whnf)
  (repeat (first | (refine ⟨rfl, Ints.len (by assumption) ?_⟩; conv => whnf) | (refine ⟨rfl, Rows.len (by assumption) ?_⟩; conv => whnf) | (refine ⟨rfl, HLen.sl ?_⟩; conv => whnf) | (refine ⟨rfl, At.load (by assumption) ?_⟩; conv => whnf) | (refine HIf.yes ?_; conv => whnf) | (refine HIf.no ?_; conv => whnf) | (refine HIf.isT (by assumption) ?_; conv => whnf) | (refine HIf.isF (by assumption) ?_; conv => whnf) | (refine HIf.decT (by assumption) ?_; conv => whnf) | (refine HIf.decF (by assumption) ?_; conv => whnf) | (refine HIf.beqT (by assumption) ?_; conv => whnf) | (refine HIf.beqF (by assumption) ?_; conv => whnf) | (refine HIf.bneT (by assumption) ?_; conv => whnf) | (refine HIf.bneF (by assumption) ?_; conv => whnf) | (refine ⟨rfl, Ints.idxN (by assumption) (by omega) (fun p hp => ?_)⟩; conv => whnf) | (refine ⟨rfl, Rows.idxN (by assumption) (by omega) (fun p y hp hy => ?_)⟩; conv => whnf) | (refine And.intro (show Kd.isBool _ = true from rfl) ?_; conv => whnf) | (refine ⟨rfl, Ints.idx (by assumption) (by omega) (by omega) (fun p hp => ?_)⟩; conv => whnf) | (refine ⟨rfl, Rows.idx (by assumption) (by omega) (by omega) (fun p y hp hy => ?_)⟩; conv => whnf) | (refine HArith.fits (by omega) (by omega) ?_; conv => whnf) | (refine Or.inl (And.intro (show Region.lexB _ _ = true by kernel_rfl) ?_); conv => whnf)))
  refine HIf.dec (fun hlt => ?_) (fun hge => ?_)
  · have hu := anyUp_snoc a i (by omega)
    have hd := anyDown_snoc a i (by omega)
    (conv => whnf)
    refine HIf.split (fun h1 => ?_) (fun h1 => ?_) <;> (conv => whnf) <;> (repeat (first | (refine ⟨rfl, Ints.len (by assumption) ?_⟩; conv => whnf) | (refine ⟨rfl, Rows.len (by assumption) ?_⟩; conv => whnf) | (refine ⟨rfl, HLen.sl ?_⟩; conv => whnf) | (refine ⟨rfl, At.load (by assumption) ?_⟩; conv => whnf) | (refine HIf.yes ?_; conv => whnf) | (refine HIf.no ?_; conv => whnf) | (refine HIf.isT (by assumption) ?_; conv => whnf) | (refine HIf.isF (by assumption) ?_; conv => whnf) | (refine HIf.decT (by assumption) ?_; conv => whnf) | (refine HIf.decF (by assumption) ?_; conv => whnf) | (refine HIf.beqT (by assumption) ?_; conv => whnf) | (refine HIf.beqF (by assumption) ?_; conv => whnf) | (refine HIf.bneT (by assumption) ?_; conv => whnf) | (refine HIf.bneF (by assumption) ?_; conv => whnf) | (refine ⟨rfl, Ints.idxN (by assumption) (by omega) (fun p hp => ?_)⟩; conv => whnf) | (refine ⟨rfl, Rows.idxN (by assumption) (by omega) (fun p y hp hy => ?_)⟩; conv => whnf) | (refine And.intro (show Kd.isBool _ = true from rfl) ?_; conv => whnf) | (refine ⟨rfl, Ints.idx (by assumption) (by omega) (by omega) (fun p hp => ?_)⟩; conv => whnf) | (refine ⟨rfl, Rows.idx (by assumption) (by omega) (by omega) (fun p y hp hy => ?_)⟩; conv => whnf) | (refine HArith.fits (by omega) (by omega) ?_; conv => whnf) | (refine Or.inl (And.intro (show Region.lexB _ _ = true by kernel_rfl) ?_); conv => whnf))) <;> refine HIf.split (fun h3 => ?_) (fun h3 => ?_) <;> (conv => whnf) <;> (repeat (first | (refine ⟨rfl, Ints.len (by assumption) ?_⟩; conv => whnf) | (refine ⟨rfl, Rows.len (by assumption) ?_⟩; conv => whnf) | (refine ⟨rfl, HLen.sl ?_⟩; conv => whnf) | (refine ⟨rfl, At.load (by assumption) ?_⟩; conv => whnf) | (refine HIf.yes ?_; conv => whnf) | (refine HIf.no ?_; conv => whnf) | (refine HIf.isT (by assumption) ?_; conv => whnf) | (refine HIf.isF (by assumption) ?_; conv => whnf) | (refine HIf.decT (by assumption) ?_; conv => whnf) | (refine HIf.decF (by assumption) ?_; conv => whnf) | (refine HIf.beqT (by assumption) ?_; conv => whnf) | (refine HIf.beqF (by assumption) ?_; conv => whnf) | (refine HIf.bneT (by assumption) ?_; conv => whnf) | (refine HIf.bneF (by assumption) ?_; conv => whnf) | (refine ⟨rfl, Ints.idxN (by assumption) (by omega) (fun p hp => ?_)⟩; conv => whnf) | (refine ⟨rfl, Rows.idxN (by assumption) (by omega) (fun p y hp hy => ?_)⟩; conv => whnf) | (refine And.intro (show Kd.isBool _ = true from rfl) ?_; conv => whnf) | (refine ⟨rfl, Ints.idx (by assumption) (by omega) (by omega) (fun p hp => ?_)⟩; conv => whnf) | (refine ⟨rfl, Rows.idx (by assumption) (by omega) (by omega) (fun p y hp hy => ?_)⟩; conv => whnf) | (refine HArith.fits (by omega) (by omega) ?_; conv => whnf) | (refine Or.inl (And.intro (show Region.lexB _ _ = true by kernel_rfl) ?_); conv => whnf)))
    all_goals exact ⟨⟨i + 1, by rw [hu, hd, h1, h3]; rfl, by omega, rfl⟩, by show a.length - (i + 1) < a.length - i; omega⟩
  · have e : i = a.length := by omega
    rw [e, List.take_length]
    (conv => whnf)
    refine ⟨rfl, ?_⟩
    (conv => whnf)
    refine HIf.split (fun h1 => ?_) (fun h1 => ?_)
    · (conv => whnf)
      exact ⟨by rw [rootSign, if_pos h1]; rfl, rfl⟩
    · (conv => whnf)
      refine HIf.split (fun h2 => ?_) (fun h2 => ?_)
      · (conv => whnf)
        exact ⟨by rw [rootSign, if_neg (by rw [h1]; decide), if_pos h2]; rfl, rfl⟩
      · (conv => whnf)
        exact ⟨by rw [rootSign, if_neg (by rw [h1]; decide), if_neg (by rw [h2]; decide)]; rfl, rfl⟩

theorem impl_RootSign (h : Heap) (x : H0) (a : List Int) (hx : Ints h x a) (hal : a.length ≤ 2199023255552) : HCalls dm Try.prog 67 [.s x] h (fun r h' => r = I (rootSign a) ∧ h' = h) := by
  refine calls_of_hFun (m := 0) kd_ok mixed Try.func67 rfl (by kernel_rfl) rfl rfl (of_decide_eq_true rfl) ?_; unfold hFun; (conv => whnf)
  refine ⟨rfl, hx.len ?_⟩
  (conv => whnf)
  refine HLoop.intro [9, 3, 4] [10, 11, 12, 6, 13, 14, 15, 16, 17, 3, 18, 19, 20, 21, 22, 4, 23, 9] (by kernel_rfl) (by kernel_rfl) (fun vs h' => ∃ i : Nat, vs = [I i, B (anyUp (a.take i)), B (anyDown (a.take i))] ∧ i ≤ a.length ∧ h' = h) (fun vs _ => a.length - natAt vs 0) ⟨0, rfl, by omega, rfl⟩ ?_
  rintro vs h' ⟨i, rfl, hi, rfl⟩
  (conv => whnf)
  refine HIf.dec (fun hlt => ?_) (fun hge => ?_)
  · have hu := anyUp_snoc a i (by omega)
    have hd := anyDown_snoc a i (by omega)
    (conv => whnf)
    (repeat (first | (refine ⟨rfl, Ints.len (by assumption) ?_⟩; conv => whnf) | (refine ⟨rfl, Rows.len (by assumption) ?_⟩; conv => whnf) | (refine ⟨rfl, HLen.sl ?_⟩; conv => whnf) | (refine ⟨rfl, At.load (by assumption) ?_⟩; conv => whnf) | (refine HIf.yes ?_; conv => whnf) | (refine HIf.no ?_; conv => whnf) | (refine HIf.isT (by assumption) ?_; conv => whnf) | (refine HIf.isF (by assumption) ?_; conv => whnf) | (refine HIf.decT (by assumption) ?_; conv => whnf) | (refine HIf.decF (by assumption) ?_; conv => whnf) | (refine HIf.beqT (by assumption) ?_; conv => whnf) | (refine HIf.beqF (by assumption) ?_; conv => whnf) | (refine HIf.bneT (by assumption) ?_; conv => whnf) | (refine HIf.bneF (by assumption) ?_; conv => whnf) | (refine ⟨rfl, Ints.idxN (by assumption) (by omega) (fun p hp => ?_)⟩; conv => whnf) | (refine ⟨rfl, Rows.idxN (by assumption) (by omega) (fun p y hp hy => ?_)⟩; conv => whnf) | (refine And.intro (show Kd.isBool _ = true from rfl) ?_; conv => whnf) | (refine ⟨rfl, Ints.idx (by assumption) (by omega) (by omega) (fun p hp => ?_)⟩; conv => whnf) | (refine ⟨rfl, Rows.idx (by assumption) (by omega) (by omega) (fun p y hp hy => ?_)⟩; conv => whnf) | (refine HArith.fits (by omega) (by omega) ?_; conv => whnf) | (refine Or.inl (And.intro (show Region.lexB _ _ = true by kernel_rfl) ?_); conv => whnf)))
    refine HIf.split (fun h1 => ?_) (fun h1 => ?_) <;> (conv => whnf) <;> (repeat (first | (refine ⟨rfl, Ints.len (by assumption) ?_⟩; conv => whnf) | (refine ⟨rfl, Rows.len (by assumption) ?_⟩; conv => whnf) | (refine ⟨rfl, HLen.sl ?_⟩; conv => whnf) | (refine ⟨rfl, At.load (by assumption) ?_⟩; conv => whnf) | (refine HIf.yes ?_; conv => whnf) | (refine HIf.no ?_; conv => whnf) | (refine HIf.isT (by assumption) ?_; conv => whnf) | (refine HIf.isF (by assumption) ?_; conv => whnf) | (refine HIf.decT (by assumption) ?_; conv => whnf) | (refine HIf.decF (by assumption) ?_; conv => whnf) | (refine HIf.beqT (by assumption) ?_; conv => whnf) | (refine HIf.beqF (by assumption) ?_; conv => whnf) | (refine HIf.bneT (by assumption) ?_; conv => whnf) | (refine HIf.bneF (by assumption) ?_; conv => whnf) | (refine ⟨rfl, Ints.idxN (by assumption) (by omega) (fun p hp => ?_)⟩; conv => whnf) | (refine ⟨rfl, Rows.idxN (by assumption) (by omega) (fun p y hp hy => ?_)⟩; conv => whnf) | (refine And.intro (show Kd.isBool _ = true from rfl) ?_; conv => whnf) | (refine ⟨rfl, Ints.idx (by assumption) (by omega) (by omega) (fun p hp => ?_)⟩; conv => whnf) | (refine ⟨rfl, Rows.idx (by assumption) (by omega) (by omega) (fun p y hp hy => ?_)⟩; conv => whnf) | (refine HArith.fits (by omega) (by omega) ?_; conv => whnf) | (refine Or.inl (And.intro (show Region.lexB _ _ = true by kernel_rfl) ?_); conv => whnf))) <;> refine HIf.split (fun h3 => ?_) (fun h3 => ?_) <;> (conv => whnf) <;> (repeat (first | (refine ⟨rfl, Ints.len (by assumption) ?_⟩; conv => whnf) | (refine ⟨rfl, Rows.len (by assumption) ?_⟩; conv => whnf) | (refine ⟨rfl, HLen.sl ?_⟩; conv => whnf) | (refine ⟨rfl, At.load (by assumption) ?_⟩; conv => whnf) | (refine HIf.yes ?_; conv => whnf) | (refine HIf.no ?_; conv => whnf) | (refine HIf.isT (by assumption) ?_; conv => whnf) | (refine HIf.isF (by assumption) ?_; conv => whnf) | (refine HIf.decT (by assumption) ?_; conv => whnf) | (refine HIf.decF (by assumption) ?_; conv => whnf) | (refine HIf.beqT (by assumption) ?_; conv => whnf) | (refine HIf.beqF (by assumption) ?_; conv => whnf) | (refine HIf.bneT (by assumption) ?_; conv => whnf) | (refine HIf.bneF (by assumption) ?_; conv => whnf) | (refine ⟨rfl, Ints.idxN (by assumption) (by omega) (fun p hp => ?_)⟩; conv => whnf) | (refine ⟨rfl, Rows.idxN (by assumption) (by omega) (fun p y hp hy => ?_)⟩; conv => whnf) | (refine And.intro (show Kd.isBool _ = true from rfl) ?_; conv => whnf) | (refine ⟨rfl, Ints.idx (by assumption) (by omega) (by omega) (fun p hp => ?_)⟩; conv => whnf) | (refine ⟨rfl, Rows.idx (by assumption) (by omega) (by omega) (fun p y hp hy => ?_)⟩; conv => whnf) | (refine HArith.fits (by omega) (by omega) ?_; conv => whnf) | (refine Or.inl (And.intro (show Region.lexB _ _ = true by kernel_rfl) ?_); conv => whnf)))
    all_goals exact ⟨⟨i + 1, by rw [hu, hd, h1, h3]; rfl, by omega, rfl⟩, by show a.length - (i + 1) < a.length - i; omega⟩
  · have e : i = a.length := by omega
    rw [e, List.take_length]
    have tl : ∀ (b1 b2 : Bool), anyUp a = b1 → anyDown a = b2 → rootSign a = (if b1 == b2 then (0 : Int) else if b1 then 1 else -1) := fun b1 b2 e1 e2 => by rw [← e1, ← e2]; rfl
    cases h1 : anyUp a <;> cases h2 : anyDown a <;> (conv => whnf) <;> (repeat (first | (refine ⟨rfl, Ints.len (by assumption) ?_⟩; conv => whnf) | (refine ⟨rfl, Rows.len (by assumption) ?_⟩; conv => whnf) | (refine ⟨rfl, HLen.sl ?_⟩; conv => whnf) | (refine ⟨rfl, At.load (by assumption) ?_⟩; conv => whnf) | (refine HIf.yes ?_; conv => whnf) | (refine HIf.no ?_; conv => whnf) | (refine HIf.isT (by assumption) ?_; conv => whnf) | (refine HIf.isF (by assumption) ?_; conv => whnf) | (refine HIf.decT (by assumption) ?_; conv => whnf) | (refine HIf.decF (by assumption) ?_; conv => whnf) | (refine HIf.beqT (by assumption) ?_; conv => whnf) | (refine HIf.beqF (by assumption) ?_; conv => whnf) | (refine HIf.bneT (by assumption) ?_; conv => whnf) | (refine HIf.bneF (by assumption) ?_; conv => whnf) | (refine ⟨rfl, Ints.idxN (by assumption) (by omega) (fun p hp => ?_)⟩; conv => whnf) | (refine ⟨rfl, Rows.idxN (by assumption) (by omega) (fun p y hp hy => ?_)⟩; conv => whnf) | (refine And.intro (show Kd.isBool _ = true from rfl) ?_; conv => whnf) | (refine ⟨rfl, Ints.idx (by assumption) (by omega) (by omega) (fun p hp => ?_)⟩; conv => whnf) | (refine ⟨rfl, Rows.idx (by assumption) (by omega) (by omega) (fun p y hp hy => ?_)⟩; conv => whnf) | (refine HArith.fits (by omega) (by omega) ?_; conv => whnf) | (refine Or.inl (And.intro (show Region.lexB _ _ = true by kernel_rfl) ?_); conv => whnf)))
    all_goals exact ⟨by rw [tl _ _ h1 h2]; rfl, rfl⟩

end Go.Proofs.Ytecfgbjddkpkcaa.Hx
