/-
  Contracts of exchange places, replayed and repeated deletions, of the program and of the reference.
  Contracts of replayed deletions of the reference, and of repeated deletions, of the program and of the reference.
-/
import Derived.Test.YtkkniibnlniflaaZ23
namespace Go.Proofs.Ytkkniibnlniflaa.Hx
open Go.RowKit
variable {dm : Bool}

theorem mem_take_snoc {l : List Int} {n : Int} {k : Nat} (hk : k < l.length) (h : n ∉ l.take k) (h2 : l.getD k 0 ≠ n) : n ∉ l.take (k + 1) := by
  rw [take_snoc l hk]
  simp only [List.mem_append, List.mem_singleton, not_or]
  exact ⟨h, fun e => h2 e.symm⟩
theorem mem_at {l : List Int} {n : Int} {k : Nat} (hk : k < l.length) (h2 : l.getD k 0 = n) : n ∈ l := by
  have : l[k] = n := by simpa [List.getD, hk] using h2
  rw [← this]
  exact List.getElem_mem hk
theorem two_lit (i j : Int) : [ci i, ci j] = [i, j].map ci := rfl


theorem lib_Index (h : Heap) (x : H0) (l : List Int) (n : Int) (hx : Ints h x l) (hl : l.length ≤ 2199023255552) :
    HCalls dm Try.prog 139 [.s x, I n] h (fun r h' => ∃ k : Int, r = I k ∧ (0 ≤ k ↔ n ∈ l) ∧ h' = h) := by
  refine calls_of_hFun (m := 0) kd_ok mixed Try.func139 rfl (by kernel_rfl) rfl rfl (of_decide_eq_true rfl) ?_; unfold hFun; (conv => whnf)
  refine ⟨rfl, hx.len ?_⟩
  (conv => whnf)
  refine HLoop.intro [8] [9, 10, 5, 11, 12, 13, 14, 15, 16, 17, 4, 18, 8] (by kernel_rfl) (by kernel_rfl) (fun vs h' => ∃ k : Nat, vs = [I k] ∧ k ≤ l.length ∧ h' = h ∧ n ∉ l.take k) (fun vs _ => l.length - natAt vs 0) ⟨0, rfl, by omega, rfl, by simp⟩ ?_
  rintro vs h' ⟨k, rfl, hk, hh, hb⟩
  subst h'
  (conv => whnf)
  refine HIf.dec (fun hlt => ?_) (fun hge => ?_)
  · (conv => whnf)
    refine ⟨rfl, Ints.idxN hx (by omega) (fun p hp => ?_)⟩
    (conv => whnf)
    refine ⟨rfl, hp.load ?_⟩
    (conv => whnf)
    refine HIf.beq (fun he => ?_) (fun hne => ?_)
    · (conv => whnf)
      refine ⟨_, rfl, ⟨fun _ => ?_, fun _ => by omega⟩, rfl⟩
      first | exact mem_at (by omega) he | exact mem_at (by omega) he.symm
    · (conv => whnf)
      refine HArith.fits (by omega) (by omega) ?_
      (conv => whnf)
      refine ⟨⟨k + 1, rfl, by omega, rfl, ?_⟩, by show l.length - (k + 1) < l.length - k; omega⟩
      first | exact mem_take_snoc (by omega) hb hne | exact mem_take_snoc (by omega) hb (Ne.symm hne)
  · have e : k = l.length := by omega
    subst e
    rw [List.take_length] at hb
    (conv => whnf)
    exact ⟨_, rfl, ⟨fun h => by omega, fun h => absurd h hb⟩, rfl⟩

theorem lib_Contains (h : Heap) (x : H0) (l : List Int) (n : Int) (hx : Ints h x l) (hl : l.length ≤ 2199023255552) :
    HCalls dm Try.prog 86 [.s x, I n] h (fun r h' => r = B (decide (n ∈ l)) ∧ h' = h) := by
  refine calls_of_hFun (m := 0) kd_ok mixed Try.func86 rfl (by kernel_rfl) rfl rfl (of_decide_eq_true rfl) ?_; unfold hFun; (conv => whnf)
  refine (lib_Index _ _ l n hx hl).mono ?_
  rintro r h' ⟨k, rfl, hk, rfl⟩
  (conv => whnf)
  refine ⟨bEq ?_, rfl⟩
  by_cases h0 : n ∈ l
  · have := hk.2 h0
    simp [h0, this]
  · have : ¬ 0 ≤ k := fun h => h0 (hk.1 h)
    simp [h0]
    omega

theorem spec_l3Has (h : Heap) (x : H0) (l : List Int) (n : Int) (hx : Ints h x l) (hl : l.length ≤ 1048576) :
    HCalls dm Try.prog 89 [.s x, I n] h (fun r h' => r = B (decide (n ∈ l)) ∧ h' = h) := by
  refine calls_of_hFun (m := 0) kd_ok mixed Try.func89 rfl (by kernel_rfl) rfl rfl (of_decide_eq_true rfl) ?_; unfold hFun; (conv => whnf)
  refine HLoop.intro [5] [6, 7, 8, 9, 12, 13, 14, 15, 16, 17, 4, 10, 11, 5] (by kernel_rfl) (by kernel_rfl) (fun vs h' => ∃ k : Nat, vs = [I k] ∧ k ≤ l.length ∧ h' = h ∧ n ∉ l.take k) (fun vs _ => l.length - natAt vs 0) ⟨0, rfl, by omega, rfl, by simp⟩ ?_
  rintro vs h' ⟨k, rfl, hk, hh, hb⟩
  subst h'
  (conv => whnf)
  refine ⟨rfl, hx.len ?_⟩
  (conv => whnf)
  refine HIf.dec (fun hlt => ?_) (fun hge => ?_)
  · (conv => whnf)
    refine ⟨rfl, Ints.idxN hx (by omega) (fun p hp => ?_)⟩
    (conv => whnf)
    refine ⟨rfl, hp.load ?_⟩
    (conv => whnf)
    refine HIf.beq (fun he => ?_) (fun hne => ?_)
    · (conv => whnf)
      exact ⟨bEq (decide_eq_true (mem_at (by omega) he)), rfl⟩
    · (conv => whnf)
      refine HArith.fits (by omega) (by omega) ?_
      (conv => whnf)
      exact ⟨⟨k + 1, rfl, by omega, rfl, mem_take_snoc (by omega) hb hne⟩, by show l.length - (k + 1) < l.length - k; omega⟩
  · have e : k = l.length := by omega
    subst e
    rw [List.take_length] at hb
    (conv => whnf)
    exact ⟨bEq (decide_eq_false hb), rfl⟩

theorem impl_ExchangeIndex (h : Heap) (x0 : H0) (a0 : List (List Int)) (x1 : H0) (a1 : List Int) (n2 : Int) (hx0 : Rows h x0 a0) (hx1 : Ints h x1 a1) (s0 : a0.length ≤ 1048576 ∧ tot a0 ≤ 1048576) (s1 : a1.length ≤ 1048576) (_s2 : -9223372036854775808 ≤ n2 ∧ n2 ≤ 9223372036854775807) :
    HCalls dm Try.prog 24 [.s x0, .s x1, I n2] h (fun r h' => r = I (exIdx a0 a1 n2) ∧ Ext h h') := by
  refine calls_of_hFun (m := 0) kd_ok mixed Try.func24 rfl (by kernel_rfl) rfl rfl (of_decide_eq_true rfl) ?_; unfold hFun; (conv => whnf)
  refine (impl_IsReduced _ _ a0 _ a1 hx0 hx1 s0 s1).mono ?_
  rintro r h1 ⟨rfl, E1⟩
  (conv => whnf)
  cases hred : isReduced a0 a1
  · rw [exIdx_off (Or.inl hred)]
    (repeat (first | (refine ⟨rfl, Ints.len (by assumption) ?_⟩; conv => whnf) | (refine ⟨rfl, Rows.len (by assumption) ?_⟩; conv => whnf) | (refine ⟨rfl, HLen.sl ?_⟩; conv => whnf) | (refine ⟨rfl, At.load (by assumption) ?_⟩; conv => whnf) | (refine HIf.yes ?_; conv => whnf) | (refine HIf.no ?_; conv => whnf) | (refine HIf.isT (by assumption) ?_; conv => whnf) | (refine HIf.isF (by assumption) ?_; conv => whnf) | (refine HIf.decT (by assumption) ?_; conv => whnf) | (refine HIf.decF (by assumption) ?_; conv => whnf) | (refine HIf.beqT (by assumption) ?_; conv => whnf) | (refine HIf.beqF (by assumption) ?_; conv => whnf) | (refine HIf.bneT (by assumption) ?_; conv => whnf) | (refine HIf.bneF (by assumption) ?_; conv => whnf) | (refine ⟨rfl, Ints.idxN (by assumption) (by omega) (fun p hp => ?_)⟩; conv => whnf) | (refine ⟨rfl, Rows.idxN (by assumption) (by omega) (fun p y hp hy => ?_)⟩; conv => whnf) | (refine And.intro (show Kd.isBool _ = true from rfl) ?_; conv => whnf) | (refine ⟨rfl, Ints.idx (by assumption) (by omega) (by omega) (fun p hp => ?_)⟩; conv => whnf) | (refine ⟨rfl, Rows.idx (by assumption) (by omega) (by omega) (fun p y hp hy => ?_)⟩; conv => whnf) | (refine HArith.fits (by omega) (by omega) ?_; conv => whnf) | (refine Or.inl (And.intro (show Region.lexB _ _ = true by kernel_rfl) ?_); conv => whnf)))
    exact ⟨rfl, E1⟩
  have hic := isReduced_word hred
  obtain ⟨hC, hl, hw⟩ := word_cartan hic
  have h4 := hC.le
  have hdl := leftDescents_length a0 a1
  (repeat (first | (refine ⟨rfl, Ints.len (by assumption) ?_⟩; conv => whnf) | (refine ⟨rfl, Rows.len (by assumption) ?_⟩; conv => whnf) | (refine ⟨rfl, HLen.sl ?_⟩; conv => whnf) | (refine ⟨rfl, At.load (by assumption) ?_⟩; conv => whnf) | (refine HIf.yes ?_; conv => whnf) | (refine HIf.no ?_; conv => whnf) | (refine HIf.isT (by assumption) ?_; conv => whnf) | (refine HIf.isF (by assumption) ?_; conv => whnf) | (refine HIf.decT (by assumption) ?_; conv => whnf) | (refine HIf.decF (by assumption) ?_; conv => whnf) | (refine HIf.beqT (by assumption) ?_; conv => whnf) | (refine HIf.beqF (by assumption) ?_; conv => whnf) | (refine HIf.bneT (by assumption) ?_; conv => whnf) | (refine HIf.bneF (by assumption) ?_; conv => whnf) | (refine ⟨rfl, Ints.idxN (by assumption) (by omega) (fun p hp => ?_)⟩; conv => whnf) | (refine ⟨rfl, Rows.idxN (by assumption) (by omega) (fun p y hp hy => ?_)⟩; conv => whnf) | (refine And.intro (show Kd.isBool _ = true from rfl) ?_; conv => whnf) | (refine ⟨rfl, Ints.idx (by assumption) (by omega) (by omega) (fun p hp => ?_)⟩; conv => whnf) | (refine ⟨rfl, Rows.idx (by assumption) (by omega) (by omega) (fun p y hp hy => ?_)⟩; conv => whnf) | (refine HArith.fits (by omega) (by omega) ?_; conv => whnf) | (refine Or.inl (And.intro (show Region.lexB _ _ = true by kernel_rfl) ?_); conv => whnf)))
  refine (impl_LeftDescents _ _ a0 _ a1 (hx0.ext E1) (hx1.ext E1) s0 s1).mono ?_
  rintro r h2 ⟨y1, rfl, f1⟩
  have E2 := E1.trans f1.1
  (conv => whnf)
  (repeat (first | (refine ⟨rfl, Ints.len (by assumption) ?_⟩; conv => whnf) | (refine ⟨rfl, Rows.len (by assumption) ?_⟩; conv => whnf) | (refine ⟨rfl, HLen.sl ?_⟩; conv => whnf) | (refine ⟨rfl, At.load (by assumption) ?_⟩; conv => whnf) | (refine HIf.yes ?_; conv => whnf) | (refine HIf.no ?_; conv => whnf) | (refine HIf.isT (by assumption) ?_; conv => whnf) | (refine HIf.isF (by assumption) ?_; conv => whnf) | (refine HIf.decT (by assumption) ?_; conv => whnf) | (refine HIf.decF (by assumption) ?_; conv => whnf) | (refine HIf.beqT (by assumption) ?_; conv => whnf) | (refine HIf.beqF (by assumption) ?_; conv => whnf) | (refine HIf.bneT (by assumption) ?_; conv => whnf) | (refine HIf.bneF (by assumption) ?_; conv => whnf) | (refine ⟨rfl, Ints.idxN (by assumption) (by omega) (fun p hp => ?_)⟩; conv => whnf) | (refine ⟨rfl, Rows.idxN (by assumption) (by omega) (fun p y hp hy => ?_)⟩; conv => whnf) | (refine And.intro (show Kd.isBool _ = true from rfl) ?_; conv => whnf) | (refine ⟨rfl, Ints.idx (by assumption) (by omega) (by omega) (fun p hp => ?_)⟩; conv => whnf) | (refine ⟨rfl, Rows.idx (by assumption) (by omega) (by omega) (fun p y hp hy => ?_)⟩; conv => whnf) | (refine HArith.fits (by omega) (by omega) ?_; conv => whnf) | (refine Or.inl (And.intro (show Region.lexB _ _ = true by kernel_rfl) ?_); conv => whnf)))
  refine (lib_Contains _ _ _ n2 f1.ints (by omega)).mono ?_
  rintro r h3 ⟨rfl, hh⟩
  subst h3
  (conv => whnf)
  by_cases hin : n2 ∈ leftDescents a0 a1
  · have hdr := descents_range hin
    rw [decide_eq_true hin]
    (repeat (first | (refine ⟨rfl, Ints.len (by assumption) ?_⟩; conv => whnf) | (refine ⟨rfl, Rows.len (by assumption) ?_⟩; conv => whnf) | (refine ⟨rfl, HLen.sl ?_⟩; conv => whnf) | (refine ⟨rfl, At.load (by assumption) ?_⟩; conv => whnf) | (refine HIf.yes ?_; conv => whnf) | (refine HIf.no ?_; conv => whnf) | (refine HIf.isT (by assumption) ?_; conv => whnf) | (refine HIf.isF (by assumption) ?_; conv => whnf) | (refine HIf.decT (by assumption) ?_; conv => whnf) | (refine HIf.decF (by assumption) ?_; conv => whnf) | (refine HIf.beqT (by assumption) ?_; conv => whnf) | (refine HIf.beqF (by assumption) ?_; conv => whnf) | (refine HIf.bneT (by assumption) ?_; conv => whnf) | (refine HIf.bneF (by assumption) ?_; conv => whnf) | (refine ⟨rfl, Ints.idxN (by assumption) (by omega) (fun p hp => ?_)⟩; conv => whnf) | (refine ⟨rfl, Rows.idxN (by assumption) (by omega) (fun p y hp hy => ?_)⟩; conv => whnf) | (refine And.intro (show Kd.isBool _ = true from rfl) ?_; conv => whnf) | (refine ⟨rfl, Ints.idx (by assumption) (by omega) (by omega) (fun p hp => ?_)⟩; conv => whnf) | (refine ⟨rfl, Rows.idx (by assumption) (by omega) (by omega) (fun p y hp hy => ?_)⟩; conv => whnf) | (refine HArith.fits (by omega) (by omega) ?_; conv => whnf) | (refine Or.inl (And.intro (show Region.lexB _ _ = true by kernel_rfl) ?_); conv => whnf)))
    refine HLit.one ?_
    (conv => whnf)
    have O0 := OwnR.push h2 [n2]
    have E3 := E2.trans (Ext.push h2 [Row.own [ci n2]])
    refine ⟨rfl, rfl, HApp.moreR O0 (hx1.ext E3) (by simp; omega) (fun h4 r4 y4 B4 hr4 O4 => ?_)⟩
    have hE2 := E2.1
    have E4 := E3.but B4 (by omega)
    have hwc := lettersOk_cons hw hdr
    (conv => whnf)
    refine (impl_image _ _ a0 _ (n2 :: a1) (hx0.ext E4) O4.ints hC hwc (by simp; omega)).mono ?_
    rintro r h5 ⟨y5, rfl, f5⟩
    have E5 := E4.trans f5.1
    have hx15 := hx1.ext E5
    (conv => whnf)
    refine ⟨rfl, hx15.len ?_⟩
    (conv => whnf)
    refine HLoop.intro [29] [30, 31, 8, 32, 33, 34, 35, 36, 37, 38, 39, 6, 40, 29] (by kernel_rfl) (by kernel_rfl) (fun vs h' => ∃ i : Nat, vs = [I i] ∧ i ≤ a1.length ∧ Ext h5 h' ∧ ∀ k, k < i → exAt a0 a1 n2 k = false) (fun vs _ => a1.length - natAt vs 0) ⟨0, rfl, by omega, Ext.refl _, fun k hk => by omega⟩ ?_
    rintro vs h6 ⟨i, rfl, hi, E6, hb⟩
    (conv => whnf)
    refine HIf.dec (fun hlt => ?_) (fun hge => ?_)
    · have E := E5.trans E6
      (conv => whnf)
      refine (impl_DeleteAt _ _ a1 (i : Int) (hx1.ext E) s1 (by omega)).mono ?_
      rintro r h7 ⟨y7, rfl, f7⟩
      have hd1 := del_len a1 (i : Int)
      (conv => whnf)
      refine (impl_image _ _ a0 _ _ (hx0.ext (E.trans f7.1)) f7.ints hC (lettersOk_del hw _) (by omega)).mono ?_
      rintro r h8 ⟨y8, rfl, f8⟩
      have E8 := f7.1.trans f8.1
      (conv => whnf)
      refine (lib_Equal _ _ _ _ _ f8.ints (f5.ints.ext (E6.trans E8)) (by rw [imageOf_length]; omega)).mono ?_
      rintro r h9 ⟨rfl, hh⟩
      subst h9
      (conv => whnf)
      refine HIf.split (fun hh => ?_) (fun hh => ?_)
      · rw [exIdx_at hred hin (by omega) hh hb]
        (conv => whnf)
        exact ⟨rfl, E.trans E8⟩
      · (conv => whnf)
        refine HArith.fits (by omega) (by omega) ?_
        (conv => whnf)
        refine ⟨⟨i + 1, rfl, by omega, E6.trans E8, fun k hk => ?_⟩, by show a1.length - (i + 1) < a1.length - i; omega⟩
        by_cases e : k = i
        · subst e; exact hh
        · exact hb k (by omega)
    · rw [exIdx_none (fun k hk => hb k (by omega))]
      (conv => whnf)
      exact ⟨rfl, E5.trans E6⟩
  · rw [exIdx_off (Or.inr hin), decide_eq_false hin]
    (repeat (first | (refine ⟨rfl, Ints.len (by assumption) ?_⟩; conv => whnf) | (refine ⟨rfl, Rows.len (by assumption) ?_⟩; conv => whnf) | (refine ⟨rfl, HLen.sl ?_⟩; conv => whnf) | (refine ⟨rfl, At.load (by assumption) ?_⟩; conv => whnf) | (refine HIf.yes ?_; conv => whnf) | (refine HIf.no ?_; conv => whnf) | (refine HIf.isT (by assumption) ?_; conv => whnf) | (refine HIf.isF (by assumption) ?_; conv => whnf) | (refine HIf.decT (by assumption) ?_; conv => whnf) | (refine HIf.decF (by assumption) ?_; conv => whnf) | (refine HIf.beqT (by assumption) ?_; conv => whnf) | (refine HIf.beqF (by assumption) ?_; conv => whnf) | (refine HIf.bneT (by assumption) ?_; conv => whnf) | (refine HIf.bneF (by assumption) ?_; conv => whnf) | (refine ⟨rfl, Ints.idxN (by assumption) (by omega) (fun p hp => ?_)⟩; conv => whnf) | (refine ⟨rfl, Rows.idxN (by assumption) (by omega) (fun p y hp hy => ?_)⟩; conv => whnf) | (refine And.intro (show Kd.isBool _ = true from rfl) ?_; conv => whnf) | (refine ⟨rfl, Ints.idx (by assumption) (by omega) (by omega) (fun p hp => ?_)⟩; conv => whnf) | (refine ⟨rfl, Rows.idx (by assumption) (by omega) (by omega) (fun p y hp hy => ?_)⟩; conv => whnf) | (refine HArith.fits (by omega) (by omega) ?_; conv => whnf) | (refine Or.inl (And.intro (show Region.lexB _ _ = true by kernel_rfl) ?_); conv => whnf)))
    exact ⟨rfl, E2⟩

theorem spec_ExchangeIndex (h : Heap) (x0 : H0) (a0 : List (List Int)) (x1 : H0) (a1 : List Int) (n2 : Int) (hx0 : Rows h x0 a0) (hx1 : Ints h x1 a1) (s0 : a0.length ≤ 1048576 ∧ tot a0 ≤ 1048576) (s1 : a1.length ≤ 1048576) (_s2 : -9223372036854775808 ≤ n2 ∧ n2 ≤ 9223372036854775807) :
    HCalls dm Try.prog 25 [.s x0, .s x1, I n2] h (fun r h' => r = I (exIdx a0 a1 n2) ∧ Ext h h') := by
  refine calls_of_hFun (m := 0) kd_ok mixed Try.func25 rfl (by kernel_rfl) rfl rfl (of_decide_eq_true rfl) ?_; unfold hFun; (conv => whnf)
  refine (spec_IsReduced _ _ a0 _ a1 hx0 hx1 s0 s1).mono ?_
  rintro r h1 ⟨rfl, E1⟩
  (conv => whnf)
  cases hred : isReduced a0 a1
  · rw [exIdx_off (Or.inl hred)]
    (repeat (first | (refine ⟨rfl, Ints.len (by assumption) ?_⟩; conv => whnf) | (refine ⟨rfl, Rows.len (by assumption) ?_⟩; conv => whnf) | (refine ⟨rfl, HLen.sl ?_⟩; conv => whnf) | (refine ⟨rfl, At.load (by assumption) ?_⟩; conv => whnf) | (refine HIf.yes ?_; conv => whnf) | (refine HIf.no ?_; conv => whnf) | (refine HIf.isT (by assumption) ?_; conv => whnf) | (refine HIf.isF (by assumption) ?_; conv => whnf) | (refine HIf.decT (by assumption) ?_; conv => whnf) | (refine HIf.decF (by assumption) ?_; conv => whnf) | (refine HIf.beqT (by assumption) ?_; conv => whnf) | (refine HIf.beqF (by assumption) ?_; conv => whnf) | (refine HIf.bneT (by assumption) ?_; conv => whnf) | (refine HIf.bneF (by assumption) ?_; conv => whnf) | (refine ⟨rfl, Ints.idxN (by assumption) (by omega) (fun p hp => ?_)⟩; conv => whnf) | (refine ⟨rfl, Rows.idxN (by assumption) (by omega) (fun p y hp hy => ?_)⟩; conv => whnf) | (refine And.intro (show Kd.isBool _ = true from rfl) ?_; conv => whnf) | (refine ⟨rfl, Ints.idx (by assumption) (by omega) (by omega) (fun p hp => ?_)⟩; conv => whnf) | (refine ⟨rfl, Rows.idx (by assumption) (by omega) (by omega) (fun p y hp hy => ?_)⟩; conv => whnf) | (refine HArith.fits (by omega) (by omega) ?_; conv => whnf) | (refine Or.inl (And.intro (show Region.lexB _ _ = true by kernel_rfl) ?_); conv => whnf)))
    exact ⟨rfl, E1⟩
  have hic := isReduced_word hred
  obtain ⟨hC, hl, hw⟩ := word_cartan hic
  have h4 := hC.le
  have hcc := (isCartan_iff a0).2 hC
  have hdl := leftDescents_length a0 a1
  (repeat (first | (refine ⟨rfl, Ints.len (by assumption) ?_⟩; conv => whnf) | (refine ⟨rfl, Rows.len (by assumption) ?_⟩; conv => whnf) | (refine ⟨rfl, HLen.sl ?_⟩; conv => whnf) | (refine ⟨rfl, At.load (by assumption) ?_⟩; conv => whnf) | (refine HIf.yes ?_; conv => whnf) | (refine HIf.no ?_; conv => whnf) | (refine HIf.isT (by assumption) ?_; conv => whnf) | (refine HIf.isF (by assumption) ?_; conv => whnf) | (refine HIf.decT (by assumption) ?_; conv => whnf) | (refine HIf.decF (by assumption) ?_; conv => whnf) | (refine HIf.beqT (by assumption) ?_; conv => whnf) | (refine HIf.beqF (by assumption) ?_; conv => whnf) | (refine HIf.bneT (by assumption) ?_; conv => whnf) | (refine HIf.bneF (by assumption) ?_; conv => whnf) | (refine ⟨rfl, Ints.idxN (by assumption) (by omega) (fun p hp => ?_)⟩; conv => whnf) | (refine ⟨rfl, Rows.idxN (by assumption) (by omega) (fun p y hp hy => ?_)⟩; conv => whnf) | (refine And.intro (show Kd.isBool _ = true from rfl) ?_; conv => whnf) | (refine ⟨rfl, Ints.idx (by assumption) (by omega) (by omega) (fun p hp => ?_)⟩; conv => whnf) | (refine ⟨rfl, Rows.idx (by assumption) (by omega) (by omega) (fun p y hp hy => ?_)⟩; conv => whnf) | (refine HArith.fits (by omega) (by omega) ?_; conv => whnf) | (refine Or.inl (And.intro (show Region.lexB _ _ = true by kernel_rfl) ?_); conv => whnf)))
  refine (spec_LeftDescents _ _ a0 _ a1 (hx0.ext E1) (hx1.ext E1) s0 s1).mono ?_
  rintro r h2 ⟨y1, rfl, f1⟩
  have E2 := E1.trans f1.1
  (conv => whnf)
  (repeat (first | (refine ⟨rfl, Ints.len (by assumption) ?_⟩; conv => whnf) | (refine ⟨rfl, Rows.len (by assumption) ?_⟩; conv => whnf) | (refine ⟨rfl, HLen.sl ?_⟩; conv => whnf) | (refine ⟨rfl, At.load (by assumption) ?_⟩; conv => whnf) | (refine HIf.yes ?_; conv => whnf) | (refine HIf.no ?_; conv => whnf) | (refine HIf.isT (by assumption) ?_; conv => whnf) | (refine HIf.isF (by assumption) ?_; conv => whnf) | (refine HIf.decT (by assumption) ?_; conv => whnf) | (refine HIf.decF (by assumption) ?_; conv => whnf) | (refine HIf.beqT (by assumption) ?_; conv => whnf) | (refine HIf.beqF (by assumption) ?_; conv => whnf) | (refine HIf.bneT (by assumption) ?_; conv => whnf) | (refine HIf.bneF (by assumption) ?_; conv => whnf) | (refine ⟨rfl, Ints.idxN (by assumption) (by omega) (fun p hp => ?_)⟩; conv => whnf) | (refine ⟨rfl, Rows.idxN (by assumption) (by omega) (fun p y hp hy => ?_)⟩; conv => whnf) | (refine And.intro (show Kd.isBool _ = true from rfl) ?_; conv => whnf) | (refine ⟨rfl, Ints.idx (by assumption) (by omega) (by omega) (fun p hp => ?_)⟩; conv => whnf) | (refine ⟨rfl, Rows.idx (by assumption) (by omega) (by omega) (fun p y hp hy => ?_)⟩; conv => whnf) | (refine HArith.fits (by omega) (by omega) ?_; conv => whnf) | (refine Or.inl (And.intro (show Region.lexB _ _ = true by kernel_rfl) ?_); conv => whnf)))
  refine (spec_l3Has _ _ _ n2 f1.ints (by omega)).mono ?_
  rintro r h3 ⟨rfl, hh⟩
  subst h3
  (conv => whnf)
  by_cases hin : n2 ∈ leftDescents a0 a1
  · have hdr := descents_range hin
    rw [decide_eq_true hin]
    (repeat (first | (refine ⟨rfl, Ints.len (by assumption) ?_⟩; conv => whnf) | (refine ⟨rfl, Rows.len (by assumption) ?_⟩; conv => whnf) | (refine ⟨rfl, HLen.sl ?_⟩; conv => whnf) | (refine ⟨rfl, At.load (by assumption) ?_⟩; conv => whnf) | (refine HIf.yes ?_; conv => whnf) | (refine HIf.no ?_; conv => whnf) | (refine HIf.isT (by assumption) ?_; conv => whnf) | (refine HIf.isF (by assumption) ?_; conv => whnf) | (refine HIf.decT (by assumption) ?_; conv => whnf) | (refine HIf.decF (by assumption) ?_; conv => whnf) | (refine HIf.beqT (by assumption) ?_; conv => whnf) | (refine HIf.beqF (by assumption) ?_; conv => whnf) | (refine HIf.bneT (by assumption) ?_; conv => whnf) | (refine HIf.bneF (by assumption) ?_; conv => whnf) | (refine ⟨rfl, Ints.idxN (by assumption) (by omega) (fun p hp => ?_)⟩; conv => whnf) | (refine ⟨rfl, Rows.idxN (by assumption) (by omega) (fun p y hp hy => ?_)⟩; conv => whnf) | (refine And.intro (show Kd.isBool _ = true from rfl) ?_; conv => whnf) | (refine ⟨rfl, Ints.idx (by assumption) (by omega) (by omega) (fun p hp => ?_)⟩; conv => whnf) | (refine ⟨rfl, Rows.idx (by assumption) (by omega) (by omega) (fun p y hp hy => ?_)⟩; conv => whnf) | (refine HArith.fits (by omega) (by omega) ?_; conv => whnf) | (refine Or.inl (And.intro (show Region.lexB _ _ = true by kernel_rfl) ?_); conv => whnf)))
    refine HLit.one ?_
    (conv => whnf)
    have O0 := OwnR.push h2 [n2]
    have E3 := E2.trans (Ext.push h2 [Row.own [ci n2]])
    refine (spec_ConcatWords _ _ [n2] _ a1 O0.ints (hx1.ext E3) (by simp) s1).mono ?_
    rintro r h4 ⟨y4, rfl, f4⟩
    have E4 := E3.trans f4.1
    have hwc := lettersOk_cons hw hdr
    (conv => whnf)
    refine (spec_l8Image _ _ a0 _ (n2 :: a1) (hx0.ext E4) f4.ints hcc hwc (by simp; omega)).mono ?_
    rintro r h5 ⟨y5, rfl, f5⟩
    have E5 := E4.trans f5.1
    (conv => whnf)
    refine HLoop.intro [8] [27, 28, 29, 30, 33, 34, 35, 36, 37, 38, 39, 40, 6, 31, 32, 8] (by kernel_rfl) (by kernel_rfl) (fun vs h' => ∃ i : Nat, vs = [I i] ∧ i ≤ a1.length ∧ Ext h5 h' ∧ ∀ k, k < i → exAt a0 a1 n2 k = false) (fun vs _ => a1.length - natAt vs 0) ⟨0, rfl, by omega, Ext.refl _, fun k hk => by omega⟩ ?_
    rintro vs h6 ⟨i, rfl, hi, E6, hb⟩
    have hx16 := hx1.ext (E5.trans E6)
    (conv => whnf)
    refine ⟨rfl, hx16.len ?_⟩
    (conv => whnf)
    refine HIf.dec (fun hlt => ?_) (fun hge => ?_)
    · have E := E5.trans E6
      (conv => whnf)
      refine (spec_DeleteAt _ _ a1 (i : Int) (hx1.ext E) s1 (by omega)).mono ?_
      rintro r h7 ⟨y7, rfl, f7⟩
      have hd1 := del_len a1 (i : Int)
      (conv => whnf)
      refine (spec_l8Image _ _ a0 _ _ (hx0.ext (E.trans f7.1)) f7.ints hcc (lettersOk_del hw _) (by omega)).mono ?_
      rintro r h8 ⟨y8, rfl, f8⟩
      have E8 := f7.1.trans f8.1
      (conv => whnf)
      refine (spec_EqualWords _ _ _ _ _ f8.ints (f5.ints.ext (E6.trans E8)) (by rw [imageOf_length]; omega)).mono ?_
      rintro r h9 ⟨rfl, hh⟩
      subst h9
      (conv => whnf)
      refine HIf.split (fun hh => ?_) (fun hh => ?_)
      · rw [exIdx_at hred hin (by omega) hh hb]
        (conv => whnf)
        exact ⟨rfl, E.trans E8⟩
      · (conv => whnf)
        refine HArith.fits (by omega) (by omega) ?_
        (conv => whnf)
        refine ⟨⟨i + 1, rfl, by omega, E6.trans E8, fun k hk => ?_⟩, by show a1.length - (i + 1) < a1.length - i; omega⟩
        by_cases e : k = i
        · subst e; exact hh
        · exact hb k (by omega)
    · rw [exIdx_none (fun k hk => hb k (by omega))]
      (conv => whnf)
      exact ⟨rfl, E5.trans E6⟩
  · rw [exIdx_off (Or.inr hin), decide_eq_false hin]
    (repeat (first | (refine ⟨rfl, Ints.len (by assumption) ?_⟩; conv => whnf) | (refine ⟨rfl, Rows.len (by assumption) ?_⟩; conv => whnf) | (refine ⟨rfl, HLen.sl ?_⟩; conv => whnf) | (refine ⟨rfl, At.load (by assumption) ?_⟩; conv => whnf) | (refine HIf.yes ?_; conv => whnf) | (refine HIf.no ?_; conv => whnf) | (refine HIf.isT (by assumption) ?_; conv => whnf) | (refine HIf.isF (by assumption) ?_; conv => whnf) | (refine HIf.decT (by assumption) ?_; conv => whnf) | (refine HIf.decF (by assumption) ?_; conv => whnf) | (refine HIf.beqT (by assumption) ?_; conv => whnf) | (refine HIf.beqF (by assumption) ?_; conv => whnf) | (refine HIf.bneT (by assumption) ?_; conv => whnf) | (refine HIf.bneF (by assumption) ?_; conv => whnf) | (refine ⟨rfl, Ints.idxN (by assumption) (by omega) (fun p hp => ?_)⟩; conv => whnf) | (refine ⟨rfl, Rows.idxN (by assumption) (by omega) (fun p y hp hy => ?_)⟩; conv => whnf) | (refine And.intro (show Kd.isBool _ = true from rfl) ?_; conv => whnf) | (refine ⟨rfl, Ints.idx (by assumption) (by omega) (by omega) (fun p hp => ?_)⟩; conv => whnf) | (refine ⟨rfl, Rows.idx (by assumption) (by omega) (by omega) (fun p y hp hy => ?_)⟩; conv => whnf) | (refine HArith.fits (by omega) (by omega) ?_; conv => whnf) | (refine Or.inl (And.intro (show Region.lexB _ _ = true by kernel_rfl) ?_); conv => whnf)))
    exact ⟨rfl, E2⟩

theorem impl_ReplayDeletions (h : Heap) (x0 : H0) (a0 : List Int) (x1 : H0) (a1 : List Int) (hx0 : Ints h x0 a0) (hx1 : Ints h x1 a1) (s0 : a0.length ≤ 1048576) (s1 : a1.length ≤ 1048576) :
    HCalls dm Try.prog 41 [.s x0, .s x1] h (fun r h' => ∃ y, r = T2 y (repOk a0 a1) ∧ Fresh h h' y (repW a0 a1)) := by
  refine calls_of_hFun (m := 0) kd_ok mixed Try.func41 rfl (by kernel_rfl) rfl rfl (of_decide_eq_true rfl) ?_; unfold hFun; (conv => whnf)
  refine HLit.empty ?_
  (conv => whnf)
  refine ⟨rfl, rfl, HApp.copy hx0 (by omega) (fun h1 y1 E1 O1 => ?_)⟩
  (conv => whnf)
  refine HLoop.intro [7, 6] [13, 14, 15, 16, 17, 20, 21, 22, 23, 24, 25, 26, 27, 28, 8, 9, 29, 30, 31, 32, 33, 34, 35, 36, 37, 38, 39, 40, 41, 42, 43, 44, 4, 5, 45, 46, 47, 48, 49, 6, 18, 19, 7] (by kernel_rfl) (by kernel_rfl) (fun vs h' => ∃ (k : Nat) (y : H0) (x : List Int), vs = [I k, .s y] ∧ k ≤ a1.length + 1 ∧ Ext h h' ∧ Own h.length h'.length h' y x ∧ x.length ≤ a0.length ∧ replay x (a1.drop k) = replay a0 a1) (fun vs _ => a1.length + 2 - natAt vs 0) ⟨0, y1, a0, rfl, by omega, E1, O1, Nat.le_refl _, rfl⟩ ?_
  rintro vs h' ⟨k, y, x, rfl, hk, E, O, hxl, hrep⟩
  have hx1 := hx1.ext E
  (conv => whnf)
  refine HArith.fits (by omega) (by omega) ?_
  (conv => whnf)
  refine ⟨rfl, hx1.len ?_⟩
  (conv => whnf)
  refine HIf.dec (fun hlt => ?_) (fun hge => ?_)
  · have hst := replay_step (x := x) (l := a1) (k := k) (by omega)
    (conv => whnf)
    refine Or.inl (And.intro (show Region.lexB _ _ = true by kernel_rfl) ?_); (conv => whnf)
    refine ⟨rfl, Ints.idxN hx1 (by omega) (fun p hp => ?_)⟩
    (conv => whnf)
    refine ⟨rfl, hp.load ?_⟩
    (conv => whnf)
    refine HArith.to (e' := ((k + 1 : Nat) : Int)) (by omega) (by omega) (by omega) ?_
    (conv => whnf)
    refine ⟨rfl, Ints.idxN hx1 (by omega) (fun p2 hp2 => ?_)⟩
    (conv => whnf)
    refine ⟨rfl, hp2.load ?_⟩
    generalize a1.getD k 0 = i at *
    generalize a1.getD (k + 1) 0 = j at *
    have hy := O.ints
    (conv => whnf)
    have bad : (i < 0 ∨ j ≤ i ∨ (x.length : Int) ≤ j) → repOk a0 a1 = false ∧ repW a0 a1 = a0 := fun hbad => by
      rw [if_pos hbad] at hst
      have hn : replay a0 a1 = none := by rw [← hrep, hst]
      exact ⟨by simp [repOk, hn], by simp [repW, hn]⟩
    have fin : (i < 0 ∨ j ≤ i ∨ (x.length : Int) ≤ j) → ∀ h2 y2, Ext h' h2 → Own h'.length h2.length h2 y2 a0 → Fresh h h2 y2 (repW a0 a1) := fun hbad h2 y2 E2 O2 => by
      rw [(bad hbad).2]
      obtain ⟨q, hq1, hq2, Oq⟩ := O2.row
      have := E.1
      exact Fresh.ofRow (E.trans E2) Oq (by omega)
    by_cases c1 : i < 0
    · rw [(bad (Or.inl c1)).1]
      (repeat (first | (refine ⟨rfl, Ints.len (by assumption) ?_⟩; conv => whnf) | (refine ⟨rfl, Rows.len (by assumption) ?_⟩; conv => whnf) | (refine ⟨rfl, HLen.sl ?_⟩; conv => whnf) | (refine ⟨rfl, At.load (by assumption) ?_⟩; conv => whnf) | (refine HIf.yes ?_; conv => whnf) | (refine HIf.no ?_; conv => whnf) | (refine HIf.isT (by assumption) ?_; conv => whnf) | (refine HIf.isF (by assumption) ?_; conv => whnf) | (refine HIf.decT (by assumption) ?_; conv => whnf) | (refine HIf.decF (by assumption) ?_; conv => whnf) | (refine HIf.beqT (by assumption) ?_; conv => whnf) | (refine HIf.beqF (by assumption) ?_; conv => whnf) | (refine HIf.bneT (by assumption) ?_; conv => whnf) | (refine HIf.bneF (by assumption) ?_; conv => whnf) | (refine ⟨rfl, Ints.idxN (by assumption) (by omega) (fun p hp => ?_)⟩; conv => whnf) | (refine ⟨rfl, Rows.idxN (by assumption) (by omega) (fun p y hp hy => ?_)⟩; conv => whnf) | (refine And.intro (show Kd.isBool _ = true from rfl) ?_; conv => whnf) | (refine ⟨rfl, Ints.idx (by assumption) (by omega) (by omega) (fun p hp => ?_)⟩; conv => whnf) | (refine ⟨rfl, Rows.idx (by assumption) (by omega) (by omega) (fun p y hp hy => ?_)⟩; conv => whnf) | (refine HArith.fits (by omega) (by omega) ?_; conv => whnf) | (refine Or.inl (And.intro (show Region.lexB _ _ = true by kernel_rfl) ?_); conv => whnf)))
      refine HLit.empty ?_
      (conv => whnf)
      refine ⟨rfl, rfl, HApp.copy (hx0.ext E) (by omega) (fun h2 y2 E2 O2 => ?_)⟩
      (conv => whnf)
      exact ⟨_, rfl, fin (Or.inl c1) _ _ E2 O2⟩
    by_cases c2 : j ≤ i
    · rw [(bad (Or.inr (Or.inl c2))).1]
      (repeat (first | (refine ⟨rfl, Ints.len (by assumption) ?_⟩; conv => whnf) | (refine ⟨rfl, Rows.len (by assumption) ?_⟩; conv => whnf) | (refine ⟨rfl, HLen.sl ?_⟩; conv => whnf) | (refine ⟨rfl, At.load (by assumption) ?_⟩; conv => whnf) | (refine HIf.yes ?_; conv => whnf) | (refine HIf.no ?_; conv => whnf) | (refine HIf.isT (by assumption) ?_; conv => whnf) | (refine HIf.isF (by assumption) ?_; conv => whnf) | (refine HIf.decT (by assumption) ?_; conv => whnf) | (refine HIf.decF (by assumption) ?_; conv => whnf) | (refine HIf.beqT (by assumption) ?_; conv => whnf) | (refine HIf.beqF (by assumption) ?_; conv => whnf) | (refine HIf.bneT (by assumption) ?_; conv => whnf) | (refine HIf.bneF (by assumption) ?_; conv => whnf) | (refine ⟨rfl, Ints.idxN (by assumption) (by omega) (fun p hp => ?_)⟩; conv => whnf) | (refine ⟨rfl, Rows.idxN (by assumption) (by omega) (fun p y hp hy => ?_)⟩; conv => whnf) | (refine And.intro (show Kd.isBool _ = true from rfl) ?_; conv => whnf) | (refine ⟨rfl, Ints.idx (by assumption) (by omega) (by omega) (fun p hp => ?_)⟩; conv => whnf) | (refine ⟨rfl, Rows.idx (by assumption) (by omega) (by omega) (fun p y hp hy => ?_)⟩; conv => whnf) | (refine HArith.fits (by omega) (by omega) ?_; conv => whnf) | (refine Or.inl (And.intro (show Region.lexB _ _ = true by kernel_rfl) ?_); conv => whnf)))
      refine HLit.empty ?_
      (conv => whnf)
      refine ⟨rfl, rfl, HApp.copy (hx0.ext E) (by omega) (fun h2 y2 E2 O2 => ?_)⟩
      (conv => whnf)
      exact ⟨_, rfl, fin (Or.inr (Or.inl c2)) _ _ E2 O2⟩
    by_cases c3 : j ≥ (x.length : Int)
    · rw [(bad (Or.inr (Or.inr c3))).1]
      (repeat (first | (refine ⟨rfl, Ints.len (by assumption) ?_⟩; conv => whnf) | (refine ⟨rfl, Rows.len (by assumption) ?_⟩; conv => whnf) | (refine ⟨rfl, HLen.sl ?_⟩; conv => whnf) | (refine ⟨rfl, At.load (by assumption) ?_⟩; conv => whnf) | (refine HIf.yes ?_; conv => whnf) | (refine HIf.no ?_; conv => whnf) | (refine HIf.isT (by assumption) ?_; conv => whnf) | (refine HIf.isF (by assumption) ?_; conv => whnf) | (refine HIf.decT (by assumption) ?_; conv => whnf) | (refine HIf.decF (by assumption) ?_; conv => whnf) | (refine HIf.beqT (by assumption) ?_; conv => whnf) | (refine HIf.beqF (by assumption) ?_; conv => whnf) | (refine HIf.bneT (by assumption) ?_; conv => whnf) | (refine HIf.bneF (by assumption) ?_; conv => whnf) | (refine ⟨rfl, Ints.idxN (by assumption) (by omega) (fun p hp => ?_)⟩; conv => whnf) | (refine ⟨rfl, Rows.idxN (by assumption) (by omega) (fun p y hp hy => ?_)⟩; conv => whnf) | (refine And.intro (show Kd.isBool _ = true from rfl) ?_; conv => whnf) | (refine ⟨rfl, Ints.idx (by assumption) (by omega) (by omega) (fun p hp => ?_)⟩; conv => whnf) | (refine ⟨rfl, Rows.idx (by assumption) (by omega) (by omega) (fun p y hp hy => ?_)⟩; conv => whnf) | (refine HArith.fits (by omega) (by omega) ?_; conv => whnf) | (refine Or.inl (And.intro (show Region.lexB _ _ = true by kernel_rfl) ?_); conv => whnf)))
      refine HLit.empty ?_
      (conv => whnf)
      refine ⟨rfl, rfl, HApp.copy (hx0.ext E) (by omega) (fun h2 y2 E2 O2 => ?_)⟩
      (conv => whnf)
      exact ⟨_, rfl, fin (Or.inr (Or.inr c3)) _ _ E2 O2⟩
    rw [if_neg (by omega), hrep] at hst
    (repeat (first | (refine ⟨rfl, Ints.len (by assumption) ?_⟩; conv => whnf) | (refine ⟨rfl, Rows.len (by assumption) ?_⟩; conv => whnf) | (refine ⟨rfl, HLen.sl ?_⟩; conv => whnf) | (refine ⟨rfl, At.load (by assumption) ?_⟩; conv => whnf) | (refine HIf.yes ?_; conv => whnf) | (refine HIf.no ?_; conv => whnf) | (refine HIf.isT (by assumption) ?_; conv => whnf) | (refine HIf.isF (by assumption) ?_; conv => whnf) | (refine HIf.decT (by assumption) ?_; conv => whnf) | (refine HIf.decF (by assumption) ?_; conv => whnf) | (refine HIf.beqT (by assumption) ?_; conv => whnf) | (refine HIf.beqF (by assumption) ?_; conv => whnf) | (refine HIf.bneT (by assumption) ?_; conv => whnf) | (refine HIf.bneF (by assumption) ?_; conv => whnf) | (refine ⟨rfl, Ints.idxN (by assumption) (by omega) (fun p hp => ?_)⟩; conv => whnf) | (refine ⟨rfl, Rows.idxN (by assumption) (by omega) (fun p y hp hy => ?_)⟩; conv => whnf) | (refine And.intro (show Kd.isBool _ = true from rfl) ?_; conv => whnf) | (refine ⟨rfl, Ints.idx (by assumption) (by omega) (by omega) (fun p hp => ?_)⟩; conv => whnf) | (refine ⟨rfl, Rows.idx (by assumption) (by omega) (by omega) (fun p y hp hy => ?_)⟩; conv => whnf) | (refine HArith.fits (by omega) (by omega) ?_; conv => whnf) | (refine Or.inl (And.intro (show Region.lexB _ _ = true by kernel_rfl) ?_); conv => whnf)))
    refine (impl_DeleteAt0 _ _ x j hy (by omega)).mono ?_
    rintro r h3 ⟨y3, rfl, f3⟩
    have hd1 := del_len x j
    (conv => whnf)
    refine (impl_DeleteAt0 _ _ _ i f3.ints (by omega)).mono ?_
    rintro r h4 ⟨y4, rfl, f4⟩
    have hd2 := del_len (del x j) i
    have hz := Fresh.inner (E.trans f3.1) f4
    (conv => whnf)
    refine HArith.to (e' := ((k + 2 : Nat) : Int)) (by omega) (by omega) (by omega) ?_
    (conv => whnf)
    exact ⟨⟨k + 2, _, _, rfl, by omega, hz.1, hz.2, by omega, hst.symm⟩, by show a1.length + 2 - (k + 2) < a1.length + 2 - k; omega⟩
  · rw [replay_end (by simp; omega)] at hrep
    have e1 : repW a0 a1 = x := by simp [repW, ← hrep]
    have e2 : repOk a0 a1 = ((a1.length : Int).tmod 2 == 0) := by simp [repOk, ← hrep]
    rw [e1, e2]
    (conv => whnf)
    refine ⟨rfl, hx1.len ?_⟩
    (conv => whnf)
    refine HRem.of (by decide) ?_
    (conv => whnf)
    exact ⟨_, rfl, Fresh.of E O⟩

end Go.Proofs.Ytkkniibnlniflaa.Hx

namespace Go.Proofs.Ytkkniibnlniflaa.Hx
open Go.RowKit
variable {dm : Bool}

theorem HLit.pair {z : Value} {v u : Int} {h : Heap} {K : HV → Heap → Prop} (hK : K (.s (.sl h.length 0 [v, u].length)) (h ++ [.own ([v, u].map ci)])) : HLit z 2 (some [ci v, ci u]) h K := HLit.two hK

theorem step_bound {c : List (List Int)} {x : List Int} {k i j : Nat} (hw : isWord c x = true) (h1 : i < j) (h2 : j < x.length) (hk : k = 0 ∨ x.length + 2 * k ≤ 15) :
    k + 1 ≤ 15 ∧ (del (del x (j : Int)) (i : Int)).length + 2 * (k + 1) ≤ 15 := by
  have h15 := (word_cartan hw).2.1
  have := del2_length h1 h2
  omega


theorem spec_ReplayDeletions (h : Heap) (x0 : H0) (a0 : List Int) (x1 : H0) (a1 : List Int) (hx0 : Ints h x0 a0) (hx1 : Ints h x1 a1) (s0 : a0.length ≤ 1048576) (s1 : a1.length ≤ 1048576) :
    HCalls dm Try.prog 42 [.s x0, .s x1] h (fun r h' => ∃ y, r = T2 y (repOk a0 a1) ∧ Fresh h h' y (repW a0 a1)) := by
  refine calls_of_hFun (m := 0) kd_ok mixed Try.func42 rfl (by kernel_rfl) rfl rfl (of_decide_eq_true rfl) ?_; unfold hFun; (conv => whnf)
  refine HLit.empty ?_
  (conv => whnf)
  refine ⟨rfl, rfl, HApp.copy hx0 (by omega) (fun h1 y1 E1 O1 => ?_)⟩
  (conv => whnf)
  refine HLoop.intro [7, 6] [11, 12, 13, 14, 15, 18, 19, 20, 21, 22, 23, 24, 25, 26, 27, 28, 29, 30, 31, 32, 33, 34, 35, 36, 37, 38, 39, 40, 41, 42, 43, 44, 45, 46, 47, 4, 5, 48, 49, 50, 51, 52, 53, 54, 55, 56, 57, 58, 59, 6, 16, 17, 7] (by kernel_rfl) (by kernel_rfl) (fun vs h' => ∃ (k : Nat) (y : H0) (x : List Int), vs = [I k, .s y] ∧ k ≤ a1.length + 1 ∧ Ext h h' ∧ Own h.length h'.length h' y x ∧ x.length ≤ a0.length ∧ replay x (a1.drop k) = replay a0 a1) (fun vs _ => a1.length + 2 - natAt vs 0) ⟨0, y1, a0, rfl, by omega, E1, O1, Nat.le_refl _, rfl⟩ ?_
  rintro vs h' ⟨k, y, x, rfl, hk, E, O, hxl, hrep⟩
  have hx1 := hx1.ext E
  (conv => whnf)
  refine HArith.fits (by omega) (by omega) ?_
  (conv => whnf)
  refine ⟨rfl, hx1.len ?_⟩
  (conv => whnf)
  refine HIf.dec (fun hlt => ?_) (fun hge => ?_)
  · have hst := replay_step (x := x) (l := a1) (k := k) (by omega)
    have hy := O.ints
    have idx1 : ∀ {K : HV → Prop}, (∀ p, At h' p (ci (a1.getD k 0)) → K (.s p)) → HIdx h' (.s x1) (I k) K := fun hK => Ints.idxN hx1 (by omega) hK
    have idx2 : ∀ {K : HV → Prop}, (∀ p, At h' p (ci (a1.getD (k + 1) 0)) → K (.s p)) → HIdx h' (.s x1) (I ((k + 1 : Nat) : Int)) K := fun hK => Ints.idxN hx1 (by omega) hK
    generalize a1.getD k 0 = i at *
    generalize a1.getD (k + 1) 0 = j at *
    have bad : (i < 0 ∨ j ≤ i ∨ (x.length : Int) ≤ j) → repOk a0 a1 = false ∧ repW a0 a1 = a0 := fun hbad => by
      rw [if_pos hbad] at hst
      have hn : replay a0 a1 = none := by rw [← hrep, hst]
      exact ⟨by simp [repOk, hn], by simp [repW, hn]⟩
    have fin : (i < 0 ∨ j ≤ i ∨ (x.length : Int) ≤ j) → ∀ h2 y2, Ext h' h2 → Own h'.length h2.length h2 y2 a0 → Fresh h h2 y2 (repW a0 a1) := fun hbad h2 y2 E2 O2 => by
      rw [(bad hbad).2]
      obtain ⟨q, hq1, hq2, Oq⟩ := O2.row
      have := E.1
      exact Fresh.ofRow (E.trans E2) Oq (by omega)
    (conv => whnf)
    refine Or.inl (And.intro (show Region.lexB _ _ = true by kernel_rfl) ?_); (conv => whnf)
    refine ⟨rfl, idx1 (fun p hp => ?_)⟩
    (conv => whnf)
    refine ⟨rfl, hp.load ?_⟩
    (conv => whnf)
    refine HIf.dec (fun c1 => ?_) (fun c1 => ?_)
    · rw [(bad (Or.inl c1)).1]
      (repeat (first | (refine ⟨rfl, Ints.len (by assumption) ?_⟩; conv => whnf) | (refine ⟨rfl, Rows.len (by assumption) ?_⟩; conv => whnf) | (refine ⟨rfl, HLen.sl ?_⟩; conv => whnf) | (refine ⟨rfl, At.load (by assumption) ?_⟩; conv => whnf) | (refine HIf.yes ?_; conv => whnf) | (refine HIf.no ?_; conv => whnf) | (refine HIf.isT (by assumption) ?_; conv => whnf) | (refine HIf.isF (by assumption) ?_; conv => whnf) | (refine HIf.decT (by assumption) ?_; conv => whnf) | (refine HIf.decF (by assumption) ?_; conv => whnf) | (refine HIf.beqT (by assumption) ?_; conv => whnf) | (refine HIf.beqF (by assumption) ?_; conv => whnf) | (refine HIf.bneT (by assumption) ?_; conv => whnf) | (refine HIf.bneF (by assumption) ?_; conv => whnf) | (refine ⟨rfl, Ints.idxN (by assumption) (by omega) (fun p hp => ?_)⟩; conv => whnf) | (refine ⟨rfl, Rows.idxN (by assumption) (by omega) (fun p y hp hy => ?_)⟩; conv => whnf) | (refine And.intro (show Kd.isBool _ = true from rfl) ?_; conv => whnf) | (refine ⟨rfl, Ints.idx (by assumption) (by omega) (by omega) (fun p hp => ?_)⟩; conv => whnf) | (refine ⟨rfl, Rows.idx (by assumption) (by omega) (by omega) (fun p y hp hy => ?_)⟩; conv => whnf) | (refine HArith.fits (by omega) (by omega) ?_; conv => whnf) | (refine Or.inl (And.intro (show Region.lexB _ _ = true by kernel_rfl) ?_); conv => whnf)))
      refine HLit.empty ?_
      (conv => whnf)
      refine ⟨rfl, rfl, HApp.copy (hx0.ext E) (by omega) (fun h2 y2 E2 O2 => ?_)⟩
      (conv => whnf)
      exact ⟨_, rfl, fin (Or.inl c1) _ _ E2 O2⟩
    (conv => whnf)
    by_cases c2 : i ≥ j
    · rw [(bad (Or.inr (Or.inl c2))).1]
      (repeat (first | (refine ⟨rfl, idx1 (fun p hp => ?_)⟩; conv => whnf) | (refine ⟨rfl, idx2 (fun p hp => ?_)⟩; conv => whnf) | (refine HArith.to (e' := ((k + 1 : Nat) : Int)) (by omega) (by omega) (by omega) ?_; conv => whnf) | (refine HIf.decF (by assumption) ?_; conv => whnf) | (refine HIf.decT (by assumption) ?_; conv => whnf) | (refine HIf.yes ?_; conv => whnf) | (refine HIf.no ?_; conv => whnf) | (refine ⟨rfl, At.load (by assumption) ?_⟩; conv => whnf) | (refine ⟨rfl, Ints.len (by assumption) ?_⟩; conv => whnf)))
      refine HLit.empty ?_
      (conv => whnf)
      refine ⟨rfl, rfl, HApp.copy (hx0.ext E) (by omega) (fun h2 y2 E2 O2 => ?_)⟩
      (conv => whnf)
      exact ⟨_, rfl, fin (Or.inr (Or.inl c2)) _ _ E2 O2⟩
    by_cases c3 : j ≥ (x.length : Int)
    · rw [(bad (Or.inr (Or.inr c3))).1]
      (repeat (first | (refine ⟨rfl, idx1 (fun p hp => ?_)⟩; conv => whnf) | (refine ⟨rfl, idx2 (fun p hp => ?_)⟩; conv => whnf) | (refine HArith.to (e' := ((k + 1 : Nat) : Int)) (by omega) (by omega) (by omega) ?_; conv => whnf) | (refine HIf.decF (by assumption) ?_; conv => whnf) | (refine HIf.decT (by assumption) ?_; conv => whnf) | (refine HIf.yes ?_; conv => whnf) | (refine HIf.no ?_; conv => whnf) | (refine ⟨rfl, At.load (by assumption) ?_⟩; conv => whnf) | (refine ⟨rfl, Ints.len (by assumption) ?_⟩; conv => whnf)))
      refine HLit.empty ?_
      (conv => whnf)
      refine ⟨rfl, rfl, HApp.copy (hx0.ext E) (by omega) (fun h2 y2 E2 O2 => ?_)⟩
      (conv => whnf)
      exact ⟨_, rfl, fin (Or.inr (Or.inr c3)) _ _ E2 O2⟩
    rw [if_neg (by omega), hrep] at hst
    (repeat (first | (refine ⟨rfl, idx1 (fun p hp => ?_)⟩; conv => whnf) | (refine ⟨rfl, idx2 (fun p hp => ?_)⟩; conv => whnf) | (refine HArith.to (e' := ((k + 1 : Nat) : Int)) (by omega) (by omega) (by omega) ?_; conv => whnf) | (refine HIf.decF (by assumption) ?_; conv => whnf) | (refine HIf.decT (by assumption) ?_; conv => whnf) | (refine HIf.yes ?_; conv => whnf) | (refine HIf.no ?_; conv => whnf) | (refine ⟨rfl, At.load (by assumption) ?_⟩; conv => whnf) | (refine ⟨rfl, Ints.len (by assumption) ?_⟩; conv => whnf)))
    refine Or.inr (Or.inr (Or.inl (Exists.intro 13 (Exists.intro [0, 1, 2, 3, 4, 5, 7, 8, 9, 10] (Exists.intro [6, 11, 12] (And.intro (show heldOk _ _ _ _ = true by kernel_rfl) ?_)))))); (conv => whnf)
    (repeat (first | (refine ⟨rfl, idx1 (fun p hp => ?_)⟩; conv => whnf) | (refine ⟨rfl, idx2 (fun p hp => ?_)⟩; conv => whnf) | (refine HArith.to (e' := ((k + 1 : Nat) : Int)) (by omega) (by omega) (by omega) ?_; conv => whnf) | (refine HIf.decF (by assumption) ?_; conv => whnf) | (refine HIf.decT (by assumption) ?_; conv => whnf) | (refine HIf.yes ?_; conv => whnf) | (refine HIf.no ?_; conv => whnf) | (refine ⟨rfl, At.load (by assumption) ?_⟩; conv => whnf) | (refine ⟨rfl, Ints.len (by assumption) ?_⟩; conv => whnf)))
    refine HCallF.fresh (spec_DeleteAt0 _ _ x j hy.frz (by omega)) (fun h3 y3 f3 => ?_)
    have hd1 := del_len x j
    (conv => whnf)
    refine HCallF.fresh (spec_DeleteAt0 _ _ _ i f3.ints.frz (by omega)) (fun h4 y4 f4 => ?_)
    have hd2 := del_len (del x j) i
    have hz := Fresh.inner (E.trans f3.1) f4
    (conv => whnf)
    refine HArith.to (e' := ((k + 2 : Nat) : Int)) (by omega) (by omega) (by omega) ?_
    (conv => whnf)
    exact ⟨⟨k + 2, _, _, rfl, by omega, hz.1, hz.2, by omega, hst.symm⟩, by show a1.length + 2 - (k + 2) < a1.length + 2 - k; omega⟩
  · rw [replay_end (by simp; omega)] at hrep
    have e1 : repW a0 a1 = x := by simp [repW, ← hrep]
    have e2 : repOk a0 a1 = ((a1.length : Int).tmod 2 == 0) := by simp [repOk, ← hrep]
    rw [e1, e2]
    (conv => whnf)
    refine ⟨rfl, hx1.len ?_⟩
    (conv => whnf)
    refine HRem.of (by decide) ?_
    (conv => whnf)
    exact ⟨_, rfl, Fresh.of E O⟩

theorem impl_ReduceByDeletion (h : Heap) (x0 : H0) (a0 : List (List Int)) (x1 : H0) (a1 : List Int) (hx0 : Rows h x0 a0) (hx1 : Ints h x1 a1) (s0 : a0.length ≤ 1048576 ∧ tot a0 ≤ 1048576) (s1 : a1.length ≤ 1048576) :
    HCalls dm Try.prog 38 [.s x0, .s x1] h (fun r h' => ∃ y z, r = .tup [y, z] ∧ Ext h h' ∧ ∃ e, h.length ≤ e ∧ e ≤ h'.length ∧ Own h.length e h' y (red a0 15 a1 []).1 ∧ Own e h'.length h' z (red a0 15 a1 []).2) := by
  refine calls_of_hFun (m := 0) kd_ok mixed Try.func38 rfl (by kernel_rfl) rfl rfl (of_decide_eq_true rfl) ?_; unfold hFun; (conv => whnf)
  refine HLit.empty ?_
  (conv => whnf)
  refine ⟨rfl, rfl, HApp.copy hx1 (by omega) (fun h1 y1 E1 O1 => ?_)⟩
  obtain ⟨r1, hr1, hr1l, Oy⟩ := O1.row
  have E2 := E1.trans (Ext.push h1 [Row.own []])
  have Oz := OwnR.push h1 []
  (conv => whnf)
  refine HLit.empty ?_
  (conv => whnf)
  refine HLoop.intro [6, 7] [16, 17, 18, 15, 19, 20, 21, 8, 9, 10, 22, 23, 24, 25, 4, 5, 26, 27, 28, 29, 30, 6, 31, 32, 33, 34, 35, 7] (by kernel_rfl) (by kernel_rfl) (fun vs h' => ∃ (y z : H0) (r1 r2 k : Nat) (x o : List Int), vs = [.s y, .s z] ∧ Ext h h' ∧ h.length ≤ r1 ∧ r1 < r2 ∧ OwnR r1 h' y x ∧ OwnR r2 h' z o ∧ (k = 0 ∨ x.length + 2 * k ≤ 15) ∧ x.length ≤ a1.length ∧ o.length ≤ 2 * k ∧ k ≤ 15 ∧ red a0 (15 - k) x o = red a0 15 a1 []) (fun vs _ => lenAt vs 0) ⟨y1, _, r1, h1.length, 0, a1, [], rfl, E2, hr1, hr1l, Oy.ext (Ext.push _ _), Oz, Or.inl rfl, Nat.le_refl _, by simp, by omega, rfl⟩ ?_
  rintro vs h' ⟨y, z, r1, r2, k, x, o, rfl, E, hr1, hr12, Oy, Oz, hk, hxl, hol, hk15, hred⟩
  have hx0 := hx0.ext E
  (conv => whnf)
  refine (impl_DeletionPair _ _ a0 _ x hx0 Oy.ints s0 (by omega)).mono ?_
  rintro r h2 ⟨rfl, E2⟩
  cases hp : (delPair a0 x).2.2
  · have hs := red_stop (f := 15 - k) (o := o) hp
    rw [hs] at hred
    rw [← hred]
    (conv => whnf)
    have hpp : delPair a0 x = ((delPair a0 x).1, (delPair a0 x).2.1, false) := by rw [← hp]
    rw [hp]
    refine HIf.yes ?_
    (conv => whnf)
    have hrl := (Oz.ext E2).lt
    have hE := E.1
    obtain ⟨ty, ey, gy⟩ := Oy.ext E2
    obtain ⟨tz, ez, gz⟩ := Oz.ext E2
    exact ⟨_, _, rfl, E.trans E2, r2, by omega, by omega, ⟨r1, ty, ey, hr1, hr12, gy⟩, ⟨r2, tz, ez, Nat.le_refl _, hrl, gz⟩⟩
  · obtain ⟨hw, i, j, hij, hj, hpe⟩ := delPair_yes hp
    have hsb := step_bound hw hij hj hk
    have hl2 := del2_length hij hj
    obtain ⟨f, hf⟩ : ∃ f, 15 - k = f + 1 := ⟨14 - k, by omega⟩
    rw [hf, red_step hpe] at hred
    rw [hpe]
    (conv => whnf)
    refine HIf.no ?_
    (conv => whnf)
    refine (impl_DeleteAt0 _ _ x (j : Int) (Oy.ext E2).ints (by omega)).mono ?_
    rintro r h3 ⟨y3, rfl, f3⟩
    have hd1 := del_len x (j : Int)
    (conv => whnf)
    refine (impl_DeleteAt0 _ _ _ (i : Int) f3.ints (by omega)).mono ?_
    rintro r h4 ⟨y4, rfl, f4⟩
    obtain ⟨r4, hr4, O4⟩ := f4.row
    have E4 := (E2.trans f3.1).trans f4.1
    have hE4 := E4.1
    have hEE := E.1
    have hE3 := f3.1.1
    have hE2 := E2.1
    have hrz := Oz.lt
    (conv => whnf)
    refine HLit.pair ?_
    (conv => whnf)
    refine ⟨rfl, rfl, HApp.litR [(i : Int), (j : Int)] (Oz.ext E4) (by simp; omega) (fun h5 r5 y5 B5 hr5 O5 => ?_)⟩
    have := O4.lt
    have hyl : y = .sl r1 0 x.length := by obtain ⟨t, e, _⟩ := Oy; exact e
    have hyl4 : y4 = .sl r4 0 (del (del x (j : Int)) (i : Int)).length := by obtain ⟨t, e, _⟩ := O4; exact e
    (conv => whnf)
    refine ⟨⟨y4, y5, r4, r5, k + 1, _, _, rfl, (E.trans E4).but B5 (by omega), by omega, by omega, O4.but B5 (by omega), O5, Or.inr hsb.2, by omega, by simp; omega, by omega, by rw [← hred]; congr 1; omega⟩, ?_⟩
    subst hyl
    subst hyl4
    show (del (del x (j : Int)) (i : Int)).length < x.length
    omega

theorem spec_ReduceByDeletion (h : Heap) (x0 : H0) (a0 : List (List Int)) (x1 : H0) (a1 : List Int) (hx0 : Rows h x0 a0) (hx1 : Ints h x1 a1) (s0 : a0.length ≤ 1048576 ∧ tot a0 ≤ 1048576) (s1 : a1.length ≤ 1048576) :
    HCalls dm Try.prog 39 [.s x0, .s x1] h (fun r h' => ∃ y z, r = .tup [y, z] ∧ Ext h h' ∧ ∃ e, h.length ≤ e ∧ e ≤ h'.length ∧ Own h.length e h' y (red a0 15 a1 []).1 ∧ Own e h'.length h' z (red a0 15 a1 []).2) := by
  refine calls_of_hFun (m := 0) kd_ok mixed Try.func39 rfl (by kernel_rfl) rfl rfl (of_decide_eq_true rfl) ?_; unfold hFun; (conv => whnf)
  refine HLit.empty ?_
  (conv => whnf)
  refine ⟨rfl, rfl, HApp.copy hx1 (by omega) (fun h1 y1 E1 O1 => ?_)⟩
  obtain ⟨r1, hr1, hr1l, Oy⟩ := O1.row
  have E2 := E1.trans (Ext.push h1 [Row.own []])
  have Oz := OwnR.push h1 []
  (conv => whnf)
  refine HLit.empty ?_
  (conv => whnf)
  refine HLoop.intro [8, 6, 7] [16, 17, 21, 22, 23, 20, 24, 25, 26, 9, 10, 11, 27, 28, 29, 30, 4, 5, 31, 32, 33, 34, 35, 6, 36, 37, 38, 39, 40, 7, 18, 19, 8] (by kernel_rfl) (by kernel_rfl) (fun vs h' => ∃ (y z : H0) (r1 r2 k : Nat) (x o : List Int), vs = [I k, .s y, .s z] ∧ Ext h h' ∧ h.length ≤ r1 ∧ r1 < r2 ∧ OwnR r1 h' y x ∧ OwnR r2 h' z o ∧ x.length ≤ a1.length ∧ o.length ≤ 2 * k ∧ k ≤ 15 ∧ red a0 (15 - k) x o = red a0 15 a1 []) (fun vs _ => 15 - natAt vs 0) ⟨y1, _, r1, h1.length, 0, a1, [], rfl, E2, hr1, hr1l, Oy.ext (Ext.push _ _), Oz, Nat.le_refl _, by simp, by omega, rfl⟩ ?_
  rintro vs h' ⟨y, z, r1, r2, k, x, o, rfl, E, hr1, hr12, Oy, Oz, hxl, hol, hk15, hred⟩
  have hx0 := hx0.ext E
  have hEE := E.1
  (conv => whnf)
  refine HIf.dec (fun hlt => ?_) (fun hge => ?_)
  · (conv => whnf)
    refine (spec_DeletionPair _ _ a0 _ x hx0 Oy.ints s0 (by omega)).mono ?_
    rintro r h2 ⟨rfl, E2⟩
    cases hp : (delPair a0 x).2.2
    · have hs := red_stop (f := 15 - k) (o := o) hp
      rw [hs] at hred
      rw [← hred]
      (conv => whnf)
      rw [hp]
      refine HIf.yes ?_
      (conv => whnf)
      have hrl := (Oz.ext E2).lt
      obtain ⟨ty, ey, gy⟩ := Oy.ext E2
      obtain ⟨tz, ez, gz⟩ := Oz.ext E2
      exact ⟨_, _, rfl, E.trans E2, r2, by omega, by omega, ⟨r1, ty, ey, hr1, hr12, gy⟩, ⟨r2, tz, ez, Nat.le_refl _, hrl, gz⟩⟩
    · obtain ⟨hw, i, j, hij, hj, hpe⟩ := delPair_yes hp
      have hl2 := del2_length hij hj
      obtain ⟨f, hf⟩ : ∃ f, 15 - k = f + 1 := ⟨14 - k, by omega⟩
      rw [hf, red_step hpe] at hred
      rw [hpe]
      (conv => whnf)
      refine HIf.no ?_
      (conv => whnf)
      refine (spec_DeleteAt0 _ _ x (j : Int) (Oy.ext E2).ints (by omega)).mono ?_
      rintro r h3 ⟨y3, rfl, f3⟩
      have hd1 := del_len x (j : Int)
      (conv => whnf)
      refine (spec_DeleteAt0 _ _ _ (i : Int) f3.ints (by omega)).mono ?_
      rintro r h4 ⟨y4, rfl, f4⟩
      obtain ⟨r4, hr4, O4⟩ := f4.row
      have E4 := (E2.trans f3.1).trans f4.1
      have hE4 := E4.1
      have hE3 := f3.1.1
      have hE2 := E2.1
      have hrz := Oz.lt
      (conv => whnf)
      refine HLit.pair ?_
      (conv => whnf)
      refine ⟨rfl, rfl, HApp.litR [(i : Int), (j : Int)] (Oz.ext E4) (by simp; omega) (fun h5 r5 y5 B5 hr5 O5 => ?_)⟩
      have := O4.lt
      (conv => whnf)
      refine HArith.fits (by omega) (by omega) ?_
      (conv => whnf)
      exact ⟨⟨y4, y5, r4, r5, k + 1, _, _, rfl, (E.trans E4).but B5 (by omega), by omega, by omega, O4.but B5 (by omega), O5, by omega, by simp; omega, by omega, by rw [← hred]; congr 1; omega⟩, by show 15 - (k + 1) < 15 - k; omega⟩
  · have e : k = 15 := by omega
    subst e
    rw [red_none] at hred
    rw [← hred]
    (conv => whnf)
    have hrl := Oz.lt
    obtain ⟨ty, ey, gy⟩ := Oy
    obtain ⟨tz, ez, gz⟩ := Oz
    exact ⟨_, _, rfl, E, r2, by omega, by omega, ⟨r1, ty, ey, hr1, hr12, gy⟩, ⟨r2, tz, ez, Nat.le_refl _, hrl, gz⟩⟩

end Go.Proofs.Ytkkniibnlniflaa.Hx
